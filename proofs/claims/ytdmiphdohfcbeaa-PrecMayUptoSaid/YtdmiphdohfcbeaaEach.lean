/- What term.each does, whatever function it hands the parts to: it goes over a term's parts in order, till that function says no. -/
import Derived.Test.YtdmiphdohfcbeaaBase
import Derived.StillTailTactics
namespace Go.Proofs.Ytdmiphdohfcbeaa
open Go.ChangeShapes Go.WideShapes Go.ChangeAt Go.RowKit

section
variable {σ : Type} (st : σ → Tm → Bool × σ)
mutual
def Tm.eachRun : Tm → σ → Bool × σ
  | .mk f ks, s => if (st s (.mk f ks)).1 then Tm.eachRuns ks (st s (.mk f ks)).2 else (false, (st s (.mk f ks)).2)
def Tm.eachRuns : List Tm → σ → Bool × σ
  | [], s => (true, s)
  | t :: ts, s => if (Tm.eachRun t s).1 then Tm.eachRuns ts (Tm.eachRun t s).2 else (false, (Tm.eachRun t s).2)
end
theorem eachRuns_step {ks : List Tm} {k : Nat} {s : σ} (h : k < ks.length) : Tm.eachRuns st (ks.drop k) s = if (Tm.eachRun st ks[k] s).1 then Tm.eachRuns st (ks.drop (k + 1)) (Tm.eachRun st ks[k] s).2 else (false, (Tm.eachRun st ks[k] s).2) := by
  rw [List.drop_eq_getElem_cons h]; rfl

/-- what is asked of the function that is handed in -/
def Does (g : FuncId) (caps : Array Value) (w0 : World) (S : List Nat) (I : World → σ → Prop) (n : Nat) : Prop :=
  ∀ (w : World) (s : σ) (t : Tm) (b o : Nat) (x y : Value), t.size ≤ n → w0.cell? ⟨b, o, none⟩ = some x → w0.cell? ⟨b, o + 1, none⟩ = some y → IsTm w0 x y t → Ext w0 w → I w s →
    Calls Try.prog g (#[.pointer (some ⟨b, o, none⟩)] ++ caps) w fun e w' => e = .returned (.bool (st s t).1) ∧ Chg S w w' ∧ I w' (st s t).2

set_option maxHeartbeats 1000000 in
set_option maxRecDepth 100000 in
theorem each_any (g : FuncId) (hg : ∀ (a : Array Value) (w : World), (callFunc g a).run Try.prog w = .ok (.enter g a) w) (caps : Array Value) (w0 : World) (S : List Nat) (hS : ∀ i, i ∈ S → w0.heap.size ≤ i) (I : World → σ → Prop) (n : Nat) (hn : n ≤ 2097152) (hdo : Does st g caps w0 S I n) (t : Tm) :
    ∀ (w : World) (s : σ) (b o : Nat) (x y : Value), t.size ≤ n → w0.cell? ⟨b, o, none⟩ = some x → w0.cell? ⟨b, o + 1, none⟩ = some y → IsTm w0 x y t → Ext w0 w → I w s →
      Calls Try.prog 55 #[.pointer (some ⟨b, o, none⟩), .func (.func g) #[] caps] w fun e w' => e = .returned (.bool (t.eachRun st s).1) ∧ Chg S w w' ∧ I w' (t.eachRun st s).2 := by
  induction t using Tm.ind with
  | h f ks ih =>
    intro w s b o x y hsz hx hy ht hext hi
    have hd := Lib.hid (hdo w s (.mk f ks) b o x y hsz hx hy ht hext hi)
    simp only [IsTm] at ht
    obtain ⟨rfl, hf1, hf2, a, c, rfl, hc, hk⟩ := ht
    simp only [Tm.size] at hsz
    have hkl := length_le_sizes ks
    have Hih := Lib.hid ih; clear ih
    cases hr : (st s (.mk f ks)).1 with
    | false =>
      have hspec : Tm.eachRun st (.mk f ks) s = (false, (st s (.mk f ks)).2) := by simp only [Tm.eachRun]; rw [hr, if_neg (by simp)]
      have Hspec := Lib.hid hspec; clear hspec
      rw [hr] at hd
      have Hr := Lib.hid hr; clear hr
      go_enter Try.func55, Try.ntmps55
      go_wp2_with ((refine (hd.out).mono ?_); rintro e w1 ⟨rfl, hc1, hi1⟩)
      go_ret
      rw [Hspec.out]
      exact ⟨rfl, hc1, hi1⟩
    | true =>
      have hspec : Tm.eachRun st (.mk f ks) s = Tm.eachRuns st ks (st s (.mk f ks)).2 := by simp only [Tm.eachRun]; rw [hr, if_pos rfl]
      have Hspec := Lib.hid hspec; clear hspec
      rw [hr] at hd
      have Hr := Lib.hid hr; clear hr
      clear hdo
      go_enter Try.func55, Try.ntmps55
      go_wp2_with ((refine (hd.out).mono ?_); rintro e w1 ⟨rfl, hc1, hi1⟩; have gy := (Chg.ext hext hc1 hS).cell hy)
      have hext1 : Ext w0 w1 := Chg.ext hext hc1 hS
      go_loopw [15] (fun i wr => ∃ (k : Nat) (s' : σ), k ≤ ks.length ∧ i = .int .i64 k ∧ Tm.eachRuns st ks (st s (.mk f ks)).2 = Tm.eachRuns st (ks.drop k) s' ∧ Chg S w wr ∧ I wr s') (fun i _ => ks.length - (intOf i).toNat)
      case atStart => exact ⟨0, _, Nat.zero_le _, rfl, rfl, hc1, hi1⟩
      case round =>
        obtain ⟨k, s', hkk, rfl, hck, hchg, hi'⟩ := hrel
        have Hck := Lib.hid hck; clear hck
        have hext' : Ext w0 wr := Chg.ext hext hchg hS
        have gy' := hext'.cell hy
        clear hi1 hc1 gy
        by_cases hlt : k < ks.length
        · obtain ⟨b', o', a', c', rfl, h1, h2, h3⟩ := hk.look hlt
          have hi2 := Hih.out _ (List.getElem_mem hlt) wr s' b' (o' + k * 2) _ _ (by have := size_le_sizes hlt; omega) h1 h2 h3 hext' hi'
          have Hi := Lib.hid hi2; clear hi2
          have Hst := Lib.hid (eachRuns_step st (s := s') hlt)
          clear hy hx
          have hk1 : (k : Int) < ks.length := by omega
          go_wp2_with ((refine (Hi.out).mono ?_); rintro e w2 ⟨rfl, hc2, hi2⟩)
          · go_ret
            have hb : (Tm.eachRun st ks[k] s').fst = false := by simpa using ‹(!(Tm.eachRun st ks[k] s').fst) = true›
            have h := (Hspec.out.trans Hck.out).trans Hst.out
            rw [hb, if_neg (by simp)] at h
            rw [h]
            exact ⟨rfl, hchg.trans hc2, hi2⟩
          · have hb : (Tm.eachRun st ks[k] s').fst = true := by simpa using ‹(!(Tm.eachRun st ks[k] s').fst) = false›
            go_roundw
            case rel => exact ⟨k + 1, _, by omega, by go_num, by rw [Hck.out, Hst.out, if_pos hb], hchg.trans hc2, hi2⟩
            case measure => simp [intOf]; omega
        · go_wp2_with fail
          go_ret
          have : k = ks.length := by omega
          subst this
          have h := Hspec.out.trans Hck.out
          rw [List.drop_length] at h
          rw [h]
          exact ⟨rfl, hchg, hi'⟩
end
end Go.Proofs.Ytdmiphdohfcbeaa
