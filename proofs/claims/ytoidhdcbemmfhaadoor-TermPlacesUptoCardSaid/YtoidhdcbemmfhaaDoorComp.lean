/- What term.Compare and term.Same return, for any two terms. -/
import Derived.Test.YtoidhdcbemmfhaaDoorShelf
import Derived.Test.YtoidhdcbemmfhaaDoorSize
namespace Go.Proofs.YtoidhdcbemmfhaaDoor
open Go.ChangeShapes Go.WideShapes Go.ChangeAt Go.RowKit

def topCmp (f g : Int) : Int := if f < 0 ∧ g < 0 then Lib.compareInt g f else Lib.compareInt f g
mutual
def Tm.cmp : Tm → Tm → Int
  | .mk f ks, .mk g ls => if topCmp f g = 0 then Tm.cmps ks ls else topCmp f g
def Tm.cmps : List Tm → List Tm → Int
  | [], [] => 0
  | [], _ :: _ => -1
  | _ :: _, [] => 1
  | a :: ks, b :: ls => if Tm.cmp a b = 0 then Tm.cmps ks ls else Tm.cmp a b
end
mutual
def Tm.same : Tm → Tm → Bool
  | .mk f ks, .mk g ls => decide (f = g) && (decide (ks.length = ls.length) && Tm.sames ks ls)
def Tm.sames : List Tm → List Tm → Bool
  | [], _ => true
  | _ :: _, [] => true
  | a :: ks, b :: ls => Tm.same a b && Tm.sames ks ls
end
theorem cmps_step {ks ls : List Tm} {k : Nat} (h : k < ks.length) (h2 : k < ls.length) : Tm.cmps (ks.drop k) (ls.drop k) = if Tm.cmp ks[k] ls[k] = 0 then Tm.cmps (ks.drop (k+1)) (ls.drop (k+1)) else Tm.cmp ks[k] ls[k] := by
  rw [List.drop_eq_getElem_cons h, List.drop_eq_getElem_cons h2]; simp only [Tm.cmps]
theorem sames_step {ks ls : List Tm} {k : Nat} (h : k < ks.length) (h2 : k < ls.length) : Tm.sames (ks.drop k) (ls.drop k) = (Tm.same ks[k] ls[k] && Tm.sames (ks.drop (k+1)) (ls.drop (k+1))) := by
  rw [List.drop_eq_getElem_cons h, List.drop_eq_getElem_cons h2]; simp only [Tm.sames]
theorem cmps_end1 {ks ls : List Tm} {k : Nat} (h : k < ks.length) (h2 : ls.length ≤ k) : Tm.cmps (ks.drop k) (ls.drop k) = 1 := by
  rw [List.drop_eq_getElem_cons h, List.drop_of_length_le h2]; simp only [Tm.cmps]
theorem cmps_end2 {ks ls : List Tm} {k : Nat} (h : ks.length ≤ k) (h2 : k < ls.length) : Tm.cmps (ks.drop k) (ls.drop k) = -1 := by
  rw [List.drop_eq_getElem_cons h2, List.drop_of_length_le h]; simp only [Tm.cmps]
theorem cmps_end3 {ks ls : List Tm} {k : Nat} (h : ks.length ≤ k) (h2 : ls.length ≤ k) : Tm.cmps (ks.drop k) (ls.drop k) = 0 := by
  rw [List.drop_of_length_le h2, List.drop_of_length_le h]; simp only [Tm.cmps]

set_option maxHeartbeats 1000000 in
theorem tops_any (f g : Int) (s s2 : Value) (w : World) (_hf : -9223372036854775808 ≤ f ∧ f ≤ 9223372036854775807) (_hg : -9223372036854775808 ≤ g ∧ g ≤ 9223372036854775807) :
    Calls Tryd.prog 60 #[.agg #[.int .i64 f, s, .int .i64 g, s2]] w fun e w' => e = .returned (.int .i64 (topCmp f g)) ∧ Ext w w' := by
  by_cases h1 : f < 0
  · by_cases h2 : g < 0
    · have ht : topCmp f g = Lib.compareInt g f := by unfold topCmp; rw [if_pos ⟨h1, h2⟩]
      have Ht := Lib.hid ht; clear ht
      go_enter Tryd.func60, Tryd.ntmps60
      go_wp2_with ((go_at_call 93; refine (Tryd.cmp_Compare_int _ _ _).mono ?_; rintro e w2 ⟨rfl, rfl⟩))
      go_ret
      exact ⟨ret_int Ht.out.symm, ext_alloc _ _⟩
    · have ht : topCmp f g = Lib.compareInt f g := by unfold topCmp; rw [if_neg (fun h => h2 h.2)]
      have Ht := Lib.hid ht; clear ht
      go_enter Tryd.func60, Tryd.ntmps60
      go_wp2_with ((go_at_call 93; refine (Tryd.cmp_Compare_int _ _ _).mono ?_; rintro e w2 ⟨rfl, rfl⟩))
      go_ret
      exact ⟨ret_int Ht.out.symm, ext_alloc _ _⟩
  · have ht : topCmp f g = Lib.compareInt f g := by unfold topCmp; rw [if_neg (fun h => h1 h.1)]
    have Ht := Lib.hid ht; clear ht
    go_enter Tryd.func60, Tryd.ntmps60
    go_wp2_with ((go_at_call 93; refine (Tryd.cmp_Compare_int _ _ _).mono ?_; rintro e w2 ⟨rfl, rfl⟩))
    go_ret
    exact ⟨ret_int Ht.out.symm, ext_alloc _ _⟩

set_option maxHeartbeats 1000000 in
set_option maxRecDepth 100000 in
theorem compareFunc_any (ks ls : List Tm) (hs : Tm.sizes ks ≤ 2097152) (hs2 : Tm.sizes ls ≤ 2097152)
    (ih : ∀ t ∈ ks, ∀ (u : Tm) (w : World) (x s y r : Value), IsTm w x s t → IsTm w y r u → t.size ≤ 2097152 → u.size ≤ 2097152 → Calls Tryd.prog 17 #[.agg #[x, s], .agg #[y, r]] w fun e w' => e = .returned (.int .i64 (t.cmp u)) ∧ Ext w w')
    (w : World) (a a2 : Option Addr) (c c2 : Nat) (hk : IsTms w a ks) (hl : IsTms w a2 ls) :
    Calls Tryd.prog 104 #[.slice a ks.length c, .slice a2 ls.length c2, .func (.func 17) #[] #[]] w fun e w' => e = .returned (.int .i64 (Tm.cmps ks ls)) ∧ Ext w w' := by
  have hkl := length_le_sizes ks
  have hll := length_le_sizes ls
  have Hih := Lib.hid ih; clear ih
  go_enter Tryd.func104, Tryd.ntmps104
  go_wp2_with fail
  go_loopw [13] (fun i wr => ∃ k : Nat, k ≤ ks.length ∧ i = .int .i64 k ∧ Tm.cmps ks ls = Tm.cmps (ks.drop k) (ls.drop k) ∧ Ext w wr) (fun i _ => ks.length - (intOf i).toNat)
  case atStart => exact ⟨0, Nat.zero_le _, rfl, rfl, Below.refl _ _⟩
  case round =>
    obtain ⟨k, hkk, rfl, hck, hext⟩ := hrel
    have Hck := Lib.hid hck; clear hck
    by_cases hlt : k < ks.length
    · have hk1 : (k : Int) < ks.length := by omega
      obtain ⟨b', o', a', c', rfl, h1, h2, h3⟩ := hk.look hlt
      have g1 := hext.cell h1
      have g2 := hext.cell h2
      by_cases hlt2 : k < ls.length
      · have hk2 : (k : Int) < ls.length := by omega
        obtain ⟨b3, o3, a3, c3, rfl, p1, p2, p3⟩ := hl.look hlt2
        have q1 := hext.cell p1
        have q2 := hext.cell p2
        have hi2 := fun w' (hx : Ext wr w') => Hih.out _ (List.getElem_mem hlt) ls[k] w' _ _ _ _ (h3.ext (Ext.trans hext hx)) (p3.ext (Ext.trans hext hx)) (by have := size_le_sizes hlt; omega) (by have := size_le_sizes hlt2; omega)
        have Hi := Lib.hid hi2; clear hi2
        have Hst := Lib.hid (cmps_step hlt hlt2)
        have hA := ext_alloc wr (.cells #[.int .i64 ks[k].f, .slice a' ks[k].ks.length c'] 27)
        have r1 := hA.cell q1
        have r2 := hA.cell q2
        have hB := hA.trans (ext_alloc _ (.cells #[.int .i64 ls[k].f, .slice a3 ls[k].ks.length c3] 27))
        go_wp2_with ((go_at_call 17; refine (Hi.out _ hB).mono ?_; rintro e w2 ⟨rfl, hx2⟩))
        · go_ret
          have hb : ¬ ks[k].cmp ls[k] = 0 := by simpa using ‹(ks[k].cmp ls[k] != 0) = true›
          rw [Hck.out, Hst.out, if_neg hb]
          exact ⟨rfl, Ext.trans hext (Ext.trans hB hx2)⟩
        · have hb : ks[k].cmp ls[k] = 0 := by simpa using ‹(ks[k].cmp ls[k] != 0) = false›
          go_roundw
          case rel => exact ⟨k + 1, by omega, by go_num, by rw [Hck.out, Hst.out, if_pos hb], Ext.trans hext (Ext.trans hB hx2)⟩
          case measure => simp [intOf]; omega
      · have hk2 : ¬ (k : Int) < ls.length := by omega
        have Hst := Lib.hid (cmps_end1 hlt (Nat.not_lt.1 hlt2))
        go_wp2_with fail
        go_ret
        rw [Hck.out, Hst.out]
        exact ⟨rfl, hext.alloc _⟩
    · have hk1 : ¬ (k : Int) < ks.length := by omega
      by_cases hlt2 : k < ls.length
      · have Hst := Lib.hid (cmps_end2 (Nat.not_lt.1 hlt) hlt2)
        have hk2 : (ks.length : Int) < ls.length := by omega
        go_wp2_with fail
        go_ret
        rw [Hck.out, Hst.out]
        exact ⟨rfl, hext⟩
      · have Hst := Lib.hid (cmps_end3 (Nat.not_lt.1 hlt) (Nat.not_lt.1 hlt2))
        have hk2 : ¬ (ks.length : Int) < ls.length := by omega
        go_wp2_with fail
        go_ret
        rw [Hck.out, Hst.out]
        exact ⟨rfl, hext⟩

set_option maxHeartbeats 1000000 in
theorem args_any (ks ls : List Tm) (hs : Tm.sizes ks ≤ 2097152) (hs2 : Tm.sizes ls ≤ 2097152)
    (ih : ∀ t ∈ ks, ∀ (u : Tm) (w : World) (x s y r : Value), IsTm w x s t → IsTm w y r u → t.size ≤ 2097152 → u.size ≤ 2097152 → Calls Tryd.prog 17 #[.agg #[x, s], .agg #[y, r]] w fun e w' => e = .returned (.int .i64 (t.cmp u)) ∧ Ext w w')
    (w : World) (x y : Value) (a a2 : Option Addr) (c c2 : Nat) (hk : IsTms w a ks) (hl : IsTms w a2 ls) :
    Calls Tryd.prog 61 #[.agg #[x, .slice a ks.length c, y, .slice a2 ls.length c2]] w fun e w' => e = .returned (.int .i64 (Tm.cmps ks ls)) ∧ Ext w w' := by
  have hx := ext_alloc w (.cells #[x, .slice a ks.length c, y, .slice a2 ls.length c2] 93)
  have H := Lib.hid (compareFunc_any ks ls hs hs2 ih _ a a2 c c2 (hk.ext hx) (hl.ext hx))
  go_enter Tryd.func61, Tryd.ntmps61
  go_wp2_with ((go_at_call 104; refine (H.out).mono ?_; rintro e w2 ⟨rfl, hx2⟩))
  go_ret
  exact ⟨rfl, Ext.trans hx hx2⟩

set_option maxHeartbeats 1000000 in
set_option maxRecDepth 100000 in
theorem compare_any (t : Tm) : ∀ (u : Tm) (w : World) (x s y r : Value), IsTm w x s t → IsTm w y r u → t.size ≤ 2097152 → u.size ≤ 2097152 →
    Calls Tryd.prog 17 #[.agg #[x, s], .agg #[y, r]] w fun e w' => e = .returned (.int .i64 (t.cmp u)) ∧ Ext w w' := by
  induction t using Tm.ind with
  | h f ks ih =>
    intro u w x s y r ht hu hs hs2
    cases u with
    | mk g ls =>
      simp only [IsTm] at ht hu
      obtain ⟨rfl, hf1, hf2, a, c, rfl, hc, hk⟩ := ht
      obtain ⟨rfl, hg1, hg2, a2, c2, rfl, hc2, hl⟩ := hu
      simp only [Tm.size] at hs hs2
      have ha := fun w' (hx : Ext w w') => args_any ks ls (by omega) (by omega) ih w' (.int .i64 f) (.int .i64 g) a a2 c c2 (hk.ext hx) (hl.ext hx)
      have Ha := Lib.hid ha; clear ha
      clear ih
      obtain ⟨PV, hPV⟩ : ∃ v, v = Value.agg #[.int .i64 f, .slice a ks.length c, .int .i64 g, .slice a2 ls.length c2] := ⟨_, rfl⟩
      have ht := fun w' => tops_any f g (.slice a ks.length c) (.slice a2 ls.length c2) w' ⟨hf1, hf2⟩ ⟨hg1, hg2⟩
      rw [← hPV] at ht
      have Ht := Lib.hid ht; clear ht
      have ha2 : ∀ w', Ext w w' → Calls Tryd.prog 61 #[PV] w' fun e w'_1 => e = Ending.returned (.int .i64 (Tm.cmps ks ls)) ∧ Ext w' w'_1 := by rw [hPV]; exact Ha.out
      have Ha2 := Lib.hid ha2; clear ha2 Ha
      have HPV := Lib.hid hPV; clear hPV
      obtain ⟨ob, hob⟩ : ∃ o, o = Obj.cells #[.func (.func 60) #[PV] #[], .func (.func 61) #[PV] #[]] 94 := ⟨_, rfl⟩
      have hspec : Tm.cmp (.mk f ks) (.mk g ls) = if topCmp f g = 0 then Tm.cmps ks ls else topCmp f g := by simp only [Tm.cmp]
      have Hspec := Lib.hid hspec; clear hspec
      go_enter Tryd.func17, Tryd.ntmps17
      go_wp2_with fail
      rw [← HPV.out, ← hob]
      obtain ⟨W, hW⟩ : ∃ W, W = ((((w.alloc (.cells #[.int .i64 f, .slice a ks.length c] 27)).alloc (.cells #[.int .i64 g, .slice a2 ls.length c2] 27)).alloc (.cells #[.int .i64 f, .slice a ks.length c, .int .i64 g, .slice a2 ls.length c2] 93)).alloc ob) := ⟨_, rfl⟩
      have hx : Ext w W := by subst hW; go_grown
      have k0 : W.cell? ⟨w.heap.size + 1 + 1 + 1, 0, none⟩ = some (.func (.func 60) #[PV] #[]) := by subst hW; subst hob; go_simp
      have k1 : W.cell? ⟨w.heap.size + 1 + 1 + 1, 1, none⟩ = some (.func (.func 61) #[PV] #[]) := by subst hW; subst hob; go_simp
      rw [← hW]
      clear hW
      go_loopw [18] (fun i wr => ∃ k : Nat, k ≤ 2 ∧ i = .int .i64 k ∧ Ext W wr ∧ (1 ≤ k → topCmp f g = 0) ∧ (2 ≤ k → Tm.cmps ks ls = 0)) (fun i _ => 2 - (intOf i).toNat)
      case atStart => exact ⟨0, by omega, rfl, Below.refl _ _, by omega, by omega⟩
      case round =>
        obtain ⟨k, hk2, rfl, hext, hz1, hz2⟩ := hrel
        have g0 := hext.cell k0
        have g1 := hext.cell k1
        have hkk : k = 0 ∨ k = 1 ∨ k = 2 := by omega
        have Hz := Lib.hid (And.intro hz1 hz2); clear hz1 hz2
        rcases hkk with rfl | rfl | rfl
        · go_wp2_with ((refine (Ht.out _).mono ?_); rintro e w2 ⟨rfl, hx2⟩)
          · go_ret
            have hb : ¬ topCmp f g = 0 := by simpa using ‹(topCmp f g != 0) = true›
            rw [Hspec.out, if_neg hb]
            exact ⟨rfl, Ext.trans hx (Ext.trans hext hx2)⟩
          · have hb : topCmp f g = 0 := by simpa using ‹(topCmp f g != 0) = false›
            exact ⟨⟨1, by omega, rfl, Ext.trans hext hx2, fun _ => hb, by omega⟩, by simp [intOf]⟩
        · go_wp2_with ((refine (Ha2.out _ (Ext.trans hx hext)).mono ?_); rintro e w2 ⟨rfl, hx2⟩)
          · go_ret
            rw [Hspec.out, if_pos (Hz.out.1 (by omega))]
            exact ⟨rfl, Ext.trans hx (Ext.trans hext hx2)⟩
          · have hb : Tm.cmps ks ls = 0 := by simpa using ‹(Tm.cmps ks ls != 0) = false›
            exact ⟨⟨2, by omega, rfl, Ext.trans hext hx2, fun _ => Hz.out.1 (by omega), fun _ => hb⟩, by simp [intOf]⟩
        · go_wp2_with fail
          go_ret
          rw [Hspec.out, if_pos (Hz.out.1 (by omega)), Hz.out.2 (by omega)]
          exact ⟨rfl, Ext.trans hx hext⟩

/-! ### Same -/
set_option maxHeartbeats 1000000 in
set_option maxRecDepth 100000 in
theorem equalFunc_any (ks ls : List Tm) (hs : Tm.sizes ks ≤ 2097152) (hs2 : Tm.sizes ls ≤ 2097152)
    (ih : ∀ t ∈ ks, ∀ (u : Tm) (w : World) (x s y r : Value), IsTm w x s t → IsTm w y r u → t.size ≤ 2097152 → u.size ≤ 2097152 → Calls Tryd.prog 18 #[.agg #[x, s], .agg #[y, r]] w fun e w' => e = .returned (.bool (t.same u)) ∧ Ext w w')
    (w : World) (a a2 : Option Addr) (c c2 : Nat) (hk : IsTms w a ks) (hl : IsTms w a2 ls) :
    Calls Tryd.prog 62 #[.slice a ks.length c, .slice a2 ls.length c2, .func (.func 18) #[] #[]] w fun e w' => e = .returned (.bool (decide (ks.length = ls.length) && Tm.sames ks ls)) ∧ Ext w w' := by
  have hkl := length_le_sizes ks
  have hll := length_le_sizes ls
  have Hih := Lib.hid ih; clear ih
  by_cases hle : ks.length = ls.length
  · have hspec : (decide (ks.length = ls.length) && Tm.sames ks ls) = Tm.sames ks ls := by rw [decide_eq_true hle]; rfl
    rw [hspec]; clear hspec
    rw [← hle]
    have Hle := Lib.hid hle; clear hle
    go_enter Tryd.func62, Tryd.ntmps62
    go_wp2_with fail
    go_loopw [17] (fun i wr => ∃ k : Nat, k ≤ ks.length ∧ i = .int .i64 k ∧ Tm.sames ks ls = Tm.sames (ks.drop k) (ls.drop k) ∧ Ext w wr) (fun i _ => ks.length - (intOf i).toNat)
    case atStart => exact ⟨0, Nat.zero_le _, rfl, rfl, Below.refl _ _⟩
    case round =>
      obtain ⟨k, hkk, rfl, hck, hext⟩ := hrel
      have Hck := Lib.hid hck; clear hck
      by_cases hlt : k < ks.length
      · have hk1 : (k : Int) < ks.length := by omega
        obtain ⟨b', o', a', c', rfl, h1, h2, h3⟩ := hk.look hlt
        have g1 := hext.cell h1
        have g2 := hext.cell h2
        have hlt2 : k < ls.length := by rw [← Hle.out]; exact hlt
        obtain ⟨b3, o3, a3, c3, rfl, p1, p2, p3⟩ := hl.look hlt2
        have q1 := hext.cell p1
        have q2 := hext.cell p2
        have hi2 := fun w' (hx : Ext wr w') => Hih.out _ (List.getElem_mem hlt) ls[k] w' _ _ _ _ (h3.ext (Ext.trans hext hx)) (p3.ext (Ext.trans hext hx)) (by have := size_le_sizes hlt; omega) (by have := size_le_sizes hlt2; omega)
        have Hi := Lib.hid hi2; clear hi2
        have Hst := Lib.hid (sames_step hlt hlt2)
        have hA := ext_alloc wr (.cells #[.int .i64 ks[k].f, .slice a' ks[k].ks.length c'] 27)
        have r1 := hA.cell q1
        have r2 := hA.cell q2
        have hB := hA.trans (ext_alloc _ (.cells #[.int .i64 ls[k].f, .slice a3 ls[k].ks.length c3] 27))
        go_wp2_with ((go_at_call 18; refine (Hi.out _ hB).mono ?_; rintro e w2 ⟨rfl, hx2⟩))
        · go_ret
          have hb : ks[k].same ls[k] = false := by simpa using ‹(!(ks[k].same ls[k])) = true›
          rw [Hck.out, Hst.out, hb]
          exact ⟨rfl, Ext.trans hext (Ext.trans hB hx2)⟩
        · have hb : ks[k].same ls[k] = true := by simpa using ‹(!(ks[k].same ls[k])) = false›
          go_roundw
          case rel => exact ⟨k + 1, by omega, by go_num, by rw [Hck.out, Hst.out, hb]; rfl, Ext.trans hext (Ext.trans hB hx2)⟩
          case measure => simp [intOf]; omega
      · have hk1 : ¬ (k : Int) < ks.length := by omega
        have h0 : Tm.sames (ks.drop k) (ls.drop k) = true := by rw [List.drop_of_length_le (by omega)]; simp only [Tm.sames]
        have H0 := Lib.hid h0; clear h0
        go_wp2_with fail
        go_ret
        rw [Hck.out, H0.out]
        exact ⟨rfl, hext⟩
  · have hspec : (decide (ks.length = ls.length) && Tm.sames ks ls) = false := by rw [decide_eq_false hle]; rfl
    rw [hspec]; clear hspec
    have hne : ((ks.length : Int) != (ls.length : Int)) = true := by rw [bne_iff_ne]; omega
    go_enter Tryd.func62, Tryd.ntmps62
    go_wp2_with fail
    go_ret
    exact ⟨rfl, Below.refl _ _⟩

set_option maxHeartbeats 1000000 in
set_option maxRecDepth 100000 in
theorem same_any (t : Tm) : ∀ (u : Tm) (w : World) (x s y r : Value), IsTm w x s t → IsTm w y r u → t.size ≤ 2097152 → u.size ≤ 2097152 →
    Calls Tryd.prog 18 #[.agg #[x, s], .agg #[y, r]] w fun e w' => e = .returned (.bool (t.same u)) ∧ Ext w w' := by
  induction t using Tm.ind with
  | h f ks ih =>
    intro u w x s y r ht hu hs hs2
    cases u with
    | mk g ls =>
      simp only [IsTm] at ht hu
      obtain ⟨rfl, hf1, hf2, a, c, rfl, hc, hk⟩ := ht
      obtain ⟨rfl, hg1, hg2, a2, c2, rfl, hc2, hl⟩ := hu
      simp only [Tm.size] at hs hs2
      have ha := fun w' (hx : Ext w w') => equalFunc_any ks ls (by omega) (by omega) ih w' a a2 c c2 (hk.ext hx) (hl.ext hx)
      have Ha := Lib.hid ha; clear ha
      clear ih
      have hA : Ext w ((w.alloc (.cells #[.int .i64 f, .slice a ks.length c] 27)).alloc (.cells #[.int .i64 g, .slice a2 ls.length c2] 27)) := by go_grown
      by_cases hz : f = g
      · have hspec : Tm.same (.mk f ks) (.mk g ls) = (decide (ks.length = ls.length) && Tm.sames ks ls) := by simp only [Tm.same]; rw [decide_eq_true hz]; rfl
        rw [hspec]; clear hspec
        subst hz
        go_enter Tryd.func18, Tryd.ntmps18
        go_wp2_with ((go_at_call 62; refine (Ha.out _ hA).mono ?_; rintro e w2 ⟨rfl, hx2⟩))
        go_ret
        exact ⟨rfl, Ext.trans hA hx2⟩
      · have hspec : Tm.same (.mk f ks) (.mk g ls) = false := by simp only [Tm.same]; rw [decide_eq_false hz]; rfl
        rw [hspec]; clear hspec
        have hz' : (f == g) = false := by simpa using hz
        go_enter Tryd.func18, Tryd.ntmps18
        go_wp2_with fail
        go_ret
        exact ⟨rfl, hA⟩
end Go.Proofs.YtoidhdcbemmfhaaDoor
