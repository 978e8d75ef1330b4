/- What clause.SameLit and clause.Same return. -/
import Derived.Test.YtoidhdcbemmfhaaDoorCl2
import Derived.Test.YtoidhdcbemmfhaaDoorComp
namespace Go.Proofs.YtoidhdcbemmfhaaDoor
open Go.ChangeShapes Go.WideShapes Go.ChangeAt Go.RowKit

def Lt.same (x y : Lt) : Bool := (x.neg == y.neg) && (x.l.same y.l && x.r.same y.r)
def samesCl : List Lt → List Lt → Bool
  | [], _ => true
  | _ :: _, [] => true
  | x :: c, y :: d => x.same y && samesCl c d
def sameCl (c d : List Lt) : Bool := decide (c.length = d.length) && samesCl c d
theorem samesCl_step {c d : List Lt} {k : Nat} (h1 : k < c.length) (h2 : k < d.length) : samesCl (c.drop k) (d.drop k) = (c[k].same d[k] && samesCl (c.drop (k + 1)) (d.drop (k + 1))) := by
  rw [List.drop_eq_getElem_cons h1, List.drop_eq_getElem_cons h2]; rfl

set_option maxHeartbeats 1000000 in
set_option maxRecDepth 100000 in
theorem sameLit_any (x y : Lt) (hx : x.sized) (hy : y.sized) (w : World) (la ra la2 ra2 : Option Addr) (lc rc lc2 rc2 : Nat)
    (h1 : IsTm w (.int .i64 x.l.f) (.slice la x.l.ks.length lc) x.l) (h2 : IsTm w (.int .i64 x.r.f) (.slice ra x.r.ks.length rc) x.r)
    (h3 : IsTm w (.int .i64 y.l.f) (.slice la2 y.l.ks.length lc2) y.l) (h4 : IsTm w (.int .i64 y.r.f) (.slice ra2 y.r.ks.length rc2) y.r) :
    Calls Tryd.prog 76 #[.agg #[.bool x.neg, .int .i64 x.l.f, .slice la x.l.ks.length lc, .int .i64 x.r.f, .slice ra x.r.ks.length rc], .agg #[.bool y.neg, .int .i64 y.l.f, .slice la2 y.l.ks.length lc2, .int .i64 y.r.f, .slice ra2 y.r.ks.length rc2]] w fun e w' => e = .returned (.bool (x.same y)) ∧ Ext w w' := by
  unfold Lt.sized at hx hy
  have HL := Lib.hid (fun w' (h : Ext w w') => same_any x.l y.l w' _ _ _ _ (h1.ext h) (h3.ext h) hx.1 hy.1)
  have HR := Lib.hid (fun w' (h : Ext w w') => same_any x.r y.r w' _ _ _ _ (h2.ext h) (h4.ext h) hx.2 hy.2)
  clear h1 h2 h3 h4 hx hy
  obtain ⟨W, hW⟩ : ∃ W, W = ((w.alloc (.cells #[.bool x.neg, .int .i64 x.l.f, .slice la x.l.ks.length lc, .int .i64 x.r.f, .slice ra x.r.ks.length rc] 65)).alloc (.cells #[.bool y.neg, .int .i64 y.l.f, .slice la2 y.l.ks.length lc2, .int .i64 y.r.f, .slice ra2 y.r.ks.length rc2] 65)) := ⟨_, rfl⟩
  have hE : Ext w W := by subst hW; go_grown
  have k := cells5 w (.bool x.neg) (.int .i64 x.l.f) (.slice la x.l.ks.length lc) (.int .i64 x.r.f) (.slice ra x.r.ks.length rc) 65
  have hA := ext_alloc (w.alloc (.cells #[.bool x.neg, .int .i64 x.l.f, .slice la x.l.ks.length lc, .int .i64 x.r.f, .slice ra x.r.ks.length rc] 65)) (.cells #[.bool y.neg, .int .i64 y.l.f, .slice la2 y.l.ks.length lc2, .int .i64 y.r.f, .slice ra2 y.r.ks.length rc2] 65)
  rw [← hW] at hA
  obtain ⟨k0, k1, k2, k3, k4⟩ := k
  replace k0 := hA.cell k0
  replace k1 := hA.cell k1
  replace k2 := hA.cell k2
  replace k3 := hA.cell k3
  replace k4 := hA.cell k4
  have q0 : W.cell? ⟨w.heap.size + 1, 0, none⟩ = some (.bool y.neg) := by subst hW; go_simp
  have q1 : W.cell? ⟨w.heap.size + 1, 1, none⟩ = some (.int .i64 y.l.f) := by subst hW; go_simp
  have q2 : W.cell? ⟨w.heap.size + 1, 2, none⟩ = some (.slice la2 y.l.ks.length lc2) := by subst hW; go_simp
  have q3 : W.cell? ⟨w.heap.size + 1, 3, none⟩ = some (.int .i64 y.r.f) := by subst hW; go_simp
  have q4 : W.cell? ⟨w.heap.size + 1, 4, none⟩ = some (.slice ra2 y.r.ks.length rc2) := by subst hW; go_simp
  clear hA
  obtain ⟨S1, hS1⟩ : ∃ S, S = x.l.same y.l := ⟨_, rfl⟩
  obtain ⟨S2, hS2⟩ : ∃ S, S = x.r.same y.r := ⟨_, rfl⟩
  rw [← hS1] at HL
  rw [← hS2] at HR
  have hspec : x.same y = ((x.neg == y.neg) && (S1 && S2)) := by rw [hS1, hS2]; rfl
  rw [hspec]
  clear hspec hS1 hS2
  cases hn : (x.neg == y.neg)
  · have hn' := hn
    go_enter Tryd.func76, Tryd.ntmps76
    go_wp2_with fail
    go_ret
    exact ⟨by simp, by rw [← hW]; exact hE⟩
  · cases S1
    · go_enter Tryd.func76, Tryd.ntmps76
      go_wp2_with ((go_at_call 18; rw [← hW]; refine (HL.out _ hE).mono ?_); rintro e w2 ⟨rfl, hx2⟩)
      go_ret
      exact ⟨by simp, hE.trans hx2⟩
    · go_enter Tryd.func76, Tryd.ntmps76
      go_wp2_with (first
        | (go_at_call 18; rw [← hW]; with_reducible refine (HL.out _ hE).mono ?_; rintro e w2 ⟨rfl, hx2⟩; have hE2 := hE.trans hx2; have r3 := hx2.cell k3; have r4 := hx2.cell k4; have s3 := hx2.cell q3; have s4 := hx2.cell q4; clear k0 k1 k2 k3 k4 q0 q1 q2 q3 q4)
        | (go_at_call 18; with_reducible refine (HR.out _ hE2).mono ?_; rintro e w3 ⟨rfl, hx3⟩))
      go_ret
      exact ⟨by simp, hE2.trans hx3⟩

set_option maxHeartbeats 1000000 in
set_option maxRecDepth 100000 in
theorem clEqual_any (c d : List Lt) (hcs : ∀ x ∈ c, x.sized) (hds : ∀ x ∈ d, x.sized) (hcl : c.length ≤ 1048576) (hdl : d.length ≤ 1048576) (w : World) (ca da : Option Addr) (cn dn : Nat) (hc : IsLits w ca c) (hd : IsLits w da d) :
    Calls Tryd.prog 75 #[.slice ca c.length cn, .slice da d.length dn, .func (.func 76) #[] #[]] w fun e w' => e = .returned (.bool (sameCl c d)) ∧ Ext w w' := by
  by_cases hle : c.length = d.length
  · have hspec : sameCl c d = samesCl c d := by unfold sameCl; rw [decide_eq_true hle]; rfl
    rw [hspec]; clear hspec
    rw [← hle]
    have Hle := Lib.hid hle; clear hle
    go_enter Tryd.func75, Tryd.ntmps75
    go_wp2_with fail
    go_loopw [17] (fun i wr => ∃ k : Nat, k ≤ c.length ∧ i = .int .i64 k ∧ samesCl c d = samesCl (c.drop k) (d.drop k) ∧ Ext w wr) (fun i _ => c.length - (intOf i).toNat)
    case atStart => exact ⟨0, Nat.zero_le _, rfl, rfl, Below.refl _ _⟩
    case round =>
      obtain ⟨k, hkk, rfl, hck, hext⟩ := hrel
      have Hck := Lib.hid hck; clear hck
      by_cases hlt : k < c.length
      · have hk1 : (k : Int) < c.length := by omega
        have hlt2 : k < d.length := by rw [← Hle.out]; exact hlt
        obtain ⟨b, o, la, lc, ra, rc, rfl, h1, h2, h3, h4, h5, h6, h7⟩ := hc.ext hext k hlt
        obtain ⟨b2, o2, la2, lc2, ra2, rc2, rfl, p1, p2, p3, p4, p5, p6, p7⟩ := hd.ext hext k hlt2
        have Hi := Lib.hid (fun w' (hx : Ext wr w') => sameLit_any c[k] d[k] (hcs _ (List.getElem_mem hlt)) (hds _ (List.getElem_mem hlt2)) w' la ra la2 ra2 lc rc lc2 rc2 (h6.ext hx) (h7.ext hx) (p6.ext hx) (p7.ext hx))
        have Hst := Lib.hid (samesCl_step hlt hlt2)
        clear h6 h7 p6 p7
        obtain ⟨W, hW⟩ : ∃ W, W = wr.alloc (.cells #[.bool c[k].neg, .int .i64 c[k].l.f, .slice la c[k].l.ks.length lc, .int .i64 c[k].r.f, .slice ra c[k].r.ks.length rc] 65) := ⟨_, rfl⟩
        have hA : Ext wr W := by subst hW; exact ext_alloc _ _
        have r0 := hA.cell p1
        have r1 := hA.cell p2
        have r2 := hA.cell p3
        have r3 := hA.cell p4
        have r4 := hA.cell p5
        have hB := hA.trans (ext_alloc W (.cells #[.bool d[k].neg, .int .i64 d[k].l.f, .slice la2 d[k].l.ks.length lc2, .int .i64 d[k].r.f, .slice ra2 d[k].r.ks.length rc2] 65))
        rw [hW] at r0 r1 r2 r3 r4 hB
        clear hW hA
        go_wp2_with ((go_at_call 76; refine (Hi.out _ hB).mono ?_; rintro e w2 ⟨rfl, hx2⟩))
        · go_ret
          have hb : c[k].same d[k] = false := by simpa using ‹(!(c[k].same d[k])) = true›
          rw [Hck.out, Hst.out, hb]
          exact ⟨rfl, Ext.trans hext (Ext.trans hB hx2)⟩
        · have hb : c[k].same d[k] = true := by simpa using ‹(!(c[k].same d[k])) = false›
          go_roundw
          case rel => exact ⟨k + 1, by omega, by go_num, by rw [Hck.out, Hst.out, hb]; rfl, Ext.trans hext (Ext.trans hB hx2)⟩
          case measure => simp [intOf]; omega
      · have hk1 : ¬ (k : Int) < c.length := by omega
        have h0 : samesCl (c.drop k) (d.drop k) = true := by rw [List.drop_of_length_le (by omega)]; simp only [samesCl]
        have H0 := Lib.hid h0; clear h0
        go_wp2_with fail
        go_ret
        rw [Hck.out, H0.out]
        exact ⟨rfl, hext⟩
  · have hspec : sameCl c d = false := by unfold sameCl; rw [decide_eq_false hle]; rfl
    rw [hspec]; clear hspec
    have hne : ((c.length : Int) != (d.length : Int)) = true := by rw [bne_iff_ne]; omega
    go_enter Tryd.func75, Tryd.ntmps75
    go_wp2_with fail
    go_ret
    exact ⟨rfl, Below.refl _ _⟩

set_option maxHeartbeats 400000 in
theorem clSame_any (c d : List Lt) (hcs : ∀ x ∈ c, x.sized) (hds : ∀ x ∈ d, x.sized) (hcl : c.length ≤ 1048576) (hdl : d.length ≤ 1048576) (w : World) (ca da : Option Addr) (cn dn : Nat) (hc : IsLits w ca c) (hd : IsLits w da d) :
    Calls Tryd.prog 33 #[.slice ca c.length cn, .slice da d.length dn] w fun e w' => e = .returned (.bool (sameCl c d)) ∧ Ext w w' := by
  have H := Lib.hid (clEqual_any c d hcs hds hcl hdl w ca da cn dn hc hd)
  go_enter Tryd.func33, Tryd.ntmps33
  go_wp2_with ((go_at_call 75; with_reducible refine (H.out).mono ?_); rintro e w1 ⟨rfl, hx1⟩)
  go_ret
  exact ⟨rfl, hx1⟩
end Go.Proofs.YtoidhdcbemmfhaaDoor
