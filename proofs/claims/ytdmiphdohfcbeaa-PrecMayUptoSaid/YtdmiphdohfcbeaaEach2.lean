/- What term.each does with a function that makes new memory: as in the text on each, with a count of the parts that were handed out. -/
import Derived.Test.YtdmiphdohfcbeaaEach
namespace Go.Proofs.Ytdmiphdohfcbeaa
open Go.ChangeShapes Go.WideShapes Go.ChangeAt Go.RowKit

section
variable {σ : Type} (st : σ → Tm → Bool × σ)
/-- what is asked of the function that is handed in -/
def Does2 (g : FuncId) (caps : Array Value) (w0 : World) (N : Nat) (I : World → σ → Nat → Prop) (n : Nat) : Prop :=
  ∀ (w : World) (s : σ) (q : Nat) (t : Tm) (b o : Nat) (x y : Value), q < N → t.size ≤ n → w0.cell? ⟨b, o, none⟩ = some x → w0.cell? ⟨b, o + 1, none⟩ = some y → IsTm w0 x y t → Ext w0 w → I w s q →
    Calls Try.prog g (#[.pointer (some ⟨b, o, none⟩)] ++ caps) w fun e w' => e = .returned (.bool (st s t).1) ∧ Ext w0 w' ∧ I w' (st s t).2 (q + 1)

set_option maxHeartbeats 1000000 in
set_option maxRecDepth 100000 in
theorem each2_any (g : FuncId) (hg : ∀ (a : Array Value) (w : World), (callFunc g a).run Try.prog w = .ok (.enter g a) w) (caps : Array Value) (w0 : World) (N : Nat) (I : World → σ → Nat → Prop) (n : Nat) (hn : n ≤ 2097152) (hdo : Does2 st g caps w0 N I n) (t : Tm) :
    ∀ (w : World) (s : σ) (q : Nat) (b o : Nat) (x y : Value), q + t.size ≤ N → t.size ≤ n → w0.cell? ⟨b, o, none⟩ = some x → w0.cell? ⟨b, o + 1, none⟩ = some y → IsTm w0 x y t → Ext w0 w → I w s q →
      Calls Try.prog 55 #[.pointer (some ⟨b, o, none⟩), .func (.func g) #[] caps] w fun e w' => e = .returned (.bool (t.eachRun st s).1) ∧ Ext w0 w' ∧ ∃ q', q' ≤ q + t.size ∧ I w' (t.eachRun st s).2 q' := by
  induction t using Tm.ind with
  | h f ks ih =>
    intro w s q b o x y hqN hsz hx hy ht hext hi
    have hd := Lib.hid (hdo w s q (.mk f ks) b o x y (by have := size_pos (.mk f ks); omega) hsz hx hy ht hext hi)
    simp only [IsTm] at ht
    obtain ⟨rfl, hf1, hf2, a, c, rfl, hc, hk⟩ := ht
    simp only [Tm.size] at hsz hqN ⊢
    have hkl := length_le_sizes ks
    have Hih := Lib.hid ih; clear ih
    cases hr : (st s (.mk f ks)).1 with
    | false =>
      have hspec : Tm.eachRun st (.mk f ks) s = (false, (st s (.mk f ks)).2) := by simp only [Tm.eachRun]; rw [hr, if_neg (by simp)]
      have Hspec := Lib.hid hspec; clear hspec
      rw [hr] at hd
      have Hr := Lib.hid hr; clear hr
      go_enter Try.func55, Try.ntmps55
      go_wp2_with ((refine (hd.out).mono ?_); rintro e w1 ⟨rfl, hc1, hi1⟩)
      go_ret
      rw [Hspec.out]
      exact ⟨rfl, hc1, _, by omega, hi1⟩
    | true =>
      have hspec : Tm.eachRun st (.mk f ks) s = Tm.eachRuns st ks (st s (.mk f ks)).2 := by simp only [Tm.eachRun]; rw [hr, if_pos rfl]
      have Hspec := Lib.hid hspec; clear hspec
      rw [hr] at hd
      have Hr := Lib.hid hr; clear hr
      clear hdo
      go_enter Try.func55, Try.ntmps55
      go_wp2_with ((refine (hd.out).mono ?_); rintro e w1 ⟨rfl, hc1, hi1⟩; have gy := hc1.cell hy)
      go_loopw [15] (fun i wr => ∃ (k : Nat) (s' : σ) (q' : Nat), k ≤ ks.length ∧ i = .int .i64 k ∧ Tm.eachRuns st ks (st s (.mk f ks)).2 = Tm.eachRuns st (ks.drop k) s' ∧ Ext w0 wr ∧ q' ≤ q + 1 + Tm.sizes (ks.take k) ∧ I wr s' q') (fun i _ => ks.length - (intOf i).toNat)
      case atStart => exact ⟨0, _, q + 1, Nat.zero_le _, rfl, rfl, hc1, by omega, hi1⟩
      case round =>
        obtain ⟨k, s', q', hkk, rfl, hck, hext', hq', hi'⟩ := hrel
        have Hck := Lib.hid hck; clear hck
        have gy' := hext'.cell hy
        clear hi1 hc1 gy
        by_cases hlt : k < ks.length
        · obtain ⟨b', o', a', c', rfl, h1, h2, h3⟩ := hk.look hlt
          have hst := sizes_take hlt
          have hst2 := sizes_take_le ks (k + 1)
          have hi2 := Hih.out _ (List.getElem_mem hlt) wr s' q' b' (o' + k * 2) _ _ (by omega) (by have := size_le_sizes hlt; omega) h1 h2 h3 hext' hi'
          have Hi := Lib.hid hi2; clear hi2
          have Hst := Lib.hid (eachRuns_step st (s := s') hlt)
          clear hy hx
          have hk1 : (k : Int) < ks.length := by omega
          go_wp2_with ((refine (Hi.out).mono ?_); rintro e w2 ⟨rfl, hc2, q2, hq2, hi2⟩)
          · go_ret
            have hb : (Tm.eachRun st ks[k] s').fst = false := by simpa using ‹(!(Tm.eachRun st ks[k] s').fst) = true›
            have h := (Hspec.out.trans Hck.out).trans Hst.out
            rw [hb, if_neg (by simp)] at h
            rw [h]
            exact ⟨rfl, hc2, _, by omega, hi2⟩
          · have hb : (Tm.eachRun st ks[k] s').fst = true := by simpa using ‹(!(Tm.eachRun st ks[k] s').fst) = false›
            go_roundw
            case rel => exact ⟨k + 1, _, q2, by omega, by go_num, by rw [Hck.out, Hst.out, if_pos hb], hc2, by omega, hi2⟩
            case measure => simp [intOf]; omega
        · go_wp2_with fail
          go_ret
          have : k = ks.length := by omega
          subst this
          have h := Hspec.out.trans Hck.out
          rw [List.drop_length] at h
          rw [h]
          exact ⟨rfl, hext', _, by rw [List.take_length] at hq'; omega, hi'⟩
end
end Go.Proofs.Ytdmiphdohfcbeaa
