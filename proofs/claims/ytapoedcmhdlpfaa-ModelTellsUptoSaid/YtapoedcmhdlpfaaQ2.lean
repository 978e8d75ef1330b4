/- What term.each does, whatever function it hands the parts to: it goes over a term's parts in order, till that function says no.
What term.Small returns, for every term that lies in memory: whether its size and depth are within the limits and its variables numbered below most.
What term.each does with a function that makes new memory: as in the text on each, with a count of the parts that were handed out. -/
import Derived.Test.YtapoedcmhdlpfaaQ0
import Derived.StillTailTactics
namespace Go.Proofs.Ytapoedcmhdlpfaa
open Go.ChangeShapes Go.WideShapes Go.ChangeAt Go.RowKit
section
variable {σ : Type} (st : σ → Tm → Bool × σ)
mutual
def Tm.eachRun : Tm → σ → Bool × σ
  | .mk f ks, s => if (st s (.mk f ks)).1 then Tm.eachRuns ks (st s (.mk f ks)).2 else (false, (st s (.mk f ks)).2)
def Tm.eachRuns : List Tm → σ → Bool × σ
  | [], s => (true, s)
  | t :: ts, s => if (Tm.eachRun t s).1 then Tm.eachRuns ts (Tm.eachRun t s).2 else (false, (Tm.eachRun t s).2)
end
theorem eachRuns_step {ks : List Tm} {k : Nat} {s : σ} (h : k < ks.length) : Tm.eachRuns st (ks.drop k) s = if (Tm.eachRun st ks[k] s).1 then Tm.eachRuns st (ks.drop (k + 1)) (Tm.eachRun st ks[k] s).2 else (false, (Tm.eachRun st ks[k] s).2) := by
  rw [List.drop_eq_getElem_cons h]; rfl

/-- what is asked of the function that is handed in -/
def Does (g : FuncId) (caps : Array Value) (w0 : World) (S : List Nat) (I : World → σ → Prop) (n : Nat) : Prop :=
  ∀ (w : World) (s : σ) (t : Tm) (b o : Nat) (x y : Value), t.size ≤ n → w0.cell? ⟨b, o, none⟩ = some x → w0.cell? ⟨b, o + 1, none⟩ = some y → IsTm w0 x y t → Ext w0 w → I w s →
    Calls Try.prog g (#[.pointer (some ⟨b, o, none⟩)] ++ caps) w fun e w' => e = .returned (.bool (st s t).1) ∧ Chg S w w' ∧ I w' (st s t).2

set_option maxHeartbeats 1000000 in
set_option maxRecDepth 100000 in
theorem each_any (g : FuncId) (hg : ∀ (a : Array Value) (w : World), (callFunc g a).run Try.prog w = .ok (.enter g a) w) (caps : Array Value) (w0 : World) (S : List Nat) (hS : ∀ i, i ∈ S → w0.heap.size ≤ i) (I : World → σ → Prop) (n : Nat) (hn : n ≤ 2097152) (hdo : Does st g caps w0 S I n) (t : Tm) :
    ∀ (w : World) (s : σ) (b o : Nat) (x y : Value), t.size ≤ n → w0.cell? ⟨b, o, none⟩ = some x → w0.cell? ⟨b, o + 1, none⟩ = some y → IsTm w0 x y t → Ext w0 w → I w s →
      Calls Try.prog 44 #[.pointer (some ⟨b, o, none⟩), .func (.func g) #[] caps] w fun e w' => e = .returned (.bool (t.eachRun st s).1) ∧ Chg S w w' ∧ I w' (t.eachRun st s).2 := by
  induction t using Tm.ind with
  | h f ks ih =>
    intro w s b o x y hsz hx hy ht hext hi
    have hd := Lib.hid (hdo w s (.mk f ks) b o x y hsz hx hy ht hext hi)
    simp only [IsTm] at ht
    obtain ⟨rfl, hf1, hf2, a, c, rfl, hc, hk⟩ := ht
    simp only [Tm.size] at hsz
    have hkl := length_le_sizes ks
    have Hih := Lib.hid ih; clear ih
    cases hr : (st s (.mk f ks)).1 with
    | false =>
      have hspec : Tm.eachRun st (.mk f ks) s = (false, (st s (.mk f ks)).2) := by simp only [Tm.eachRun]; rw [hr, if_neg (by simp)]
      have Hspec := Lib.hid hspec; clear hspec
      rw [hr] at hd
      have Hr := Lib.hid hr; clear hr
      go_enter Try.func44, Try.ntmps44
      go_wp2_with ((refine (hd.out).mono ?_); rintro e w1 ⟨rfl, hc1, hi1⟩)
      go_ret
      rw [Hspec.out]
      exact ⟨rfl, hc1, hi1⟩
    | true =>
      have hspec : Tm.eachRun st (.mk f ks) s = Tm.eachRuns st ks (st s (.mk f ks)).2 := by simp only [Tm.eachRun]; rw [hr, if_pos rfl]
      have Hspec := Lib.hid hspec; clear hspec
      rw [hr] at hd
      have Hr := Lib.hid hr; clear hr
      clear hdo
      go_enter Try.func44, Try.ntmps44
      go_wp2_with ((refine (hd.out).mono ?_); rintro e w1 ⟨rfl, hc1, hi1⟩; have gy := (Chg.ext hext hc1 hS).cell hy)
      have hext1 : Ext w0 w1 := Chg.ext hext hc1 hS
      go_loopw [15] (fun i wr => ∃ (k : Nat) (s' : σ), k ≤ ks.length ∧ i = .int .i64 k ∧ Tm.eachRuns st ks (st s (.mk f ks)).2 = Tm.eachRuns st (ks.drop k) s' ∧ Chg S w wr ∧ I wr s') (fun i _ => ks.length - (intOf i).toNat)
      case atStart => exact ⟨0, _, Nat.zero_le _, rfl, rfl, hc1, hi1⟩
      case round =>
        obtain ⟨k, s', hkk, rfl, hck, hchg, hi'⟩ := hrel
        have Hck := Lib.hid hck; clear hck
        have hext' : Ext w0 wr := Chg.ext hext hchg hS
        have gy' := hext'.cell hy
        clear hi1 hc1 gy
        by_cases hlt : k < ks.length
        · obtain ⟨b', o', a', c', rfl, h1, h2, h3⟩ := hk.look hlt
          have hi2 := Hih.out _ (List.getElem_mem hlt) wr s' b' (o' + k * 2) _ _ (by have := size_le_sizes hlt; omega) h1 h2 h3 hext' hi'
          have Hi := Lib.hid hi2; clear hi2
          have Hst := Lib.hid (eachRuns_step st (s := s') hlt)
          clear hy hx
          have hk1 : (k : Int) < ks.length := by omega
          go_wp2_with ((refine (Hi.out).mono ?_); rintro e w2 ⟨rfl, hc2, hi2⟩)
          · go_ret
            have hb : (Tm.eachRun st ks[k] s').fst = false := by simpa using ‹(!(Tm.eachRun st ks[k] s').fst) = true›
            have h := (Hspec.out.trans Hck.out).trans Hst.out
            rw [hb, if_neg (by simp)] at h
            rw [h]
            exact ⟨rfl, hchg.trans hc2, hi2⟩
          · have hb : (Tm.eachRun st ks[k] s').fst = true := by simpa using ‹(!(Tm.eachRun st ks[k] s').fst) = false›
            go_roundw
            case rel => exact ⟨k + 1, _, by omega, by go_num, by rw [Hck.out, Hst.out, if_pos hb], hchg.trans hc2, hi2⟩
            case measure => simp [intOf]; omega
        · go_wp2_with fail
          go_ret
          have : k = ks.length := by omega
          subst this
          have h := Hspec.out.trans Hck.out
          rw [List.drop_length] at h
          rw [h]
          exact ⟨rfl, hchg, hi'⟩
end
end Go.Proofs.Ytapoedcmhdlpfaa
namespace Go.Proofs.Ytapoedcmhdlpfaa
open Go.ChangeShapes Go.WideShapes Go.ChangeAt Go.RowKit
mutual
def Tm.smallRun (m : Int) : Tm → Nat → Nat → Bool × Nat
  | .mk f ks, d, n => if 300 < n + 1 ∨ 30 < d ∨ (f < 0 ∧ (f < -m ∨ 0 < ks.length)) then (false, n + 1) else Tm.smallRuns m ks (d + 1) (n + 1)
def Tm.smallRuns (m : Int) : List Tm → Nat → Nat → Bool × Nat
  | [], _, n => (true, n)
  | t :: ts, d, n => if (Tm.smallRun m t d n).1 then Tm.smallRuns m ts d (Tm.smallRun m t d n).2 else (false, (Tm.smallRun m t d n).2)
end
def Tm.small (m : Int) (t : Tm) : Bool := decide (t.size ≤ 300) && decide (t.depth ≤ 30) && t.low m

theorem smallRun_eq (m : Int) (t : Tm) : ∀ d n, 1 ≤ d → n ≤ 300 → ((Tm.smallRun m t d n).1 = true ↔ n + t.size ≤ 300 ∧ d + t.depth ≤ 31 ∧ t.low m = true) ∧ ((Tm.smallRun m t d n).1 = true → (Tm.smallRun m t d n).2 = n + t.size) := by
  refine Tm.rec (motive_1 := fun t => ∀ d n, 1 ≤ d → n ≤ 300 → ((Tm.smallRun m t d n).1 = true ↔ n + t.size ≤ 300 ∧ d + t.depth ≤ 31 ∧ t.low m = true) ∧ ((Tm.smallRun m t d n).1 = true → (Tm.smallRun m t d n).2 = n + t.size))
    (motive_2 := fun l => ∀ d n, 1 ≤ d → n ≤ 300 → ((Tm.smallRuns m l d n).1 = true ↔ n + Tm.sizes l ≤ 300 ∧ (l = [] ∨ d + Tm.depths l ≤ 31) ∧ Tm.lows m l = true) ∧ ((Tm.smallRuns m l d n).1 = true → (Tm.smallRuns m l d n).2 = n + Tm.sizes l)) ?_ ?_ ?_ t
  · intro f ks ih d n hd hn
    simp only [Tm.smallRun, Tm.size, Tm.depth, Tm.low]
    by_cases h : 300 < n + 1 ∨ 30 < d ∨ (f < 0 ∧ (f < -m ∨ 0 < ks.length))
    · rw [if_pos h]
      refine ⟨⟨(fun h => by cases h), fun ⟨g1, g2, g3⟩ => ?_⟩, fun h => by cases h⟩
      exfalso
      rcases h with h | h | ⟨h1, h2⟩
      · omega
      · omega
      · rw [if_pos h1, Bool.and_eq_true, decide_eq_true_eq, decide_eq_true_eq] at g3
        omega
    · rw [if_neg h]
      obtain ⟨i1, i2⟩ := ih (d + 1) (n + 1) (by omega) (by omega)
      refine ⟨?_, fun hh => by rw [i2 hh]; omega⟩
      rw [i1]
      by_cases hf : f < 0
      · have h1 : -m ≤ f := by omega
        have h2 : ks.length = 0 := by omega
        have h3 : ks = [] := List.eq_nil_of_length_eq_zero h2
        subst h3
        simp [Tm.lows, Tm.sizes, Tm.depths, h1, hf]; omega
      · rw [if_neg hf]
        constructor
        · rintro ⟨g1, g2, g3⟩
          refine ⟨by omega, ?_, g3⟩
          rcases g2 with g2 | g2
          · subst g2; simp [Tm.depths]; omega
          · omega
        · rintro ⟨g1, g2, g3⟩
          exact ⟨by omega, .inr (by omega), g3⟩
  · intro d n _ hn; simp [Tm.smallRuns, Tm.sizes, Tm.lows, hn]
  · intro t ts ih1 ih2 d n hd hn
    simp only [Tm.smallRuns, Tm.sizes, Tm.lows, Tm.depths]
    obtain ⟨a1, a2⟩ := ih1 d n hd hn
    cases h : (Tm.smallRun m t d n).1 with
    | true =>
      obtain ⟨h1, h2, h3⟩ := a1.1 h
      have e := a2 h
      obtain ⟨b1, b2⟩ := ih2 d (n + t.size) hd h1
      rw [if_pos rfl, e]
      refine ⟨?_, fun hh => by rw [b2 hh]; omega⟩
      rw [b1, h3, Bool.true_and]
      constructor
      · rintro ⟨g1, g2, g3⟩
        refine ⟨by omega, .inr ?_, g3⟩
        rcases g2 with g2 | g2
        · subst g2; simp [Tm.depths]; omega
        · omega
      · rintro ⟨g1, g2, g3⟩
        refine ⟨by omega, .inr ?_, g3⟩
        rcases g2 with g2 | g2
        · cases g2
        · omega
    | false =>
      rw [if_neg (by simp)]
      refine ⟨⟨(fun h => by cases h), fun ⟨g1, g2, g3⟩ => ?_⟩, fun h => by cases h⟩
      exfalso
      rw [Bool.and_eq_true] at g3
      have g4 : d + t.depth ≤ 31 := by
        rcases g2 with g2 | g2
        · cases g2
        · omega
      rw [a1.2 ⟨by omega, g4, g3.1⟩] at h
      cases h

theorem small_eq (m : Int) (t : Tm) : (Tm.smallRun m t 1 0).1 = t.small m := by
  rw [Bool.eq_iff_iff, (smallRun_eq m t 1 0 (Nat.le_refl _) (by omega)).1]
  unfold Tm.small
  simp only [Bool.and_eq_true, decide_eq_true_eq, and_assoc]
  constructor
  · rintro ⟨h1, h2, h3⟩; exact ⟨by omega, by omega, h3⟩
  · rintro ⟨h1, h2, h3⟩; exact ⟨by omega, by omega, h3⟩
end Go.Proofs.Ytapoedcmhdlpfaa
namespace Go.Proofs.Ytapoedcmhdlpfaa
open Go.ChangeShapes Go.WideShapes Go.ChangeAt Go.RowKit
section
variable {σ : Type} (st : σ → Tm → Bool × σ)
/-- what is asked of the function that is handed in -/
def Does2 (g : FuncId) (caps : Array Value) (w0 : World) (N : Nat) (I : World → σ → Nat → Prop) (n : Nat) : Prop :=
  ∀ (w : World) (s : σ) (q : Nat) (t : Tm) (b o : Nat) (x y : Value), q < N → t.size ≤ n → w0.cell? ⟨b, o, none⟩ = some x → w0.cell? ⟨b, o + 1, none⟩ = some y → IsTm w0 x y t → Ext w0 w → I w s q →
    Calls Try.prog g (#[.pointer (some ⟨b, o, none⟩)] ++ caps) w fun e w' => e = .returned (.bool (st s t).1) ∧ Ext w0 w' ∧ I w' (st s t).2 (q + 1)

set_option maxHeartbeats 1000000 in
set_option maxRecDepth 100000 in
theorem each2_any (g : FuncId) (hg : ∀ (a : Array Value) (w : World), (callFunc g a).run Try.prog w = .ok (.enter g a) w) (caps : Array Value) (w0 : World) (N : Nat) (I : World → σ → Nat → Prop) (n : Nat) (hn : n ≤ 2097152) (hdo : Does2 st g caps w0 N I n) (t : Tm) :
    ∀ (w : World) (s : σ) (q : Nat) (b o : Nat) (x y : Value), q + t.size ≤ N → t.size ≤ n → w0.cell? ⟨b, o, none⟩ = some x → w0.cell? ⟨b, o + 1, none⟩ = some y → IsTm w0 x y t → Ext w0 w → I w s q →
      Calls Try.prog 44 #[.pointer (some ⟨b, o, none⟩), .func (.func g) #[] caps] w fun e w' => e = .returned (.bool (t.eachRun st s).1) ∧ Ext w0 w' ∧ ∃ q', q' ≤ q + t.size ∧ I w' (t.eachRun st s).2 q' := by
  induction t using Tm.ind with
  | h f ks ih =>
    intro w s q b o x y hqN hsz hx hy ht hext hi
    have hd := Lib.hid (hdo w s q (.mk f ks) b o x y (by have := size_pos (.mk f ks); omega) hsz hx hy ht hext hi)
    simp only [IsTm] at ht
    obtain ⟨rfl, hf1, hf2, a, c, rfl, hc, hk⟩ := ht
    simp only [Tm.size] at hsz hqN ⊢
    have hkl := length_le_sizes ks
    have Hih := Lib.hid ih; clear ih
    cases hr : (st s (.mk f ks)).1 with
    | false =>
      have hspec : Tm.eachRun st (.mk f ks) s = (false, (st s (.mk f ks)).2) := by simp only [Tm.eachRun]; rw [hr, if_neg (by simp)]
      have Hspec := Lib.hid hspec; clear hspec
      rw [hr] at hd
      have Hr := Lib.hid hr; clear hr
      go_enter Try.func44, Try.ntmps44
      go_wp2_with ((refine (hd.out).mono ?_); rintro e w1 ⟨rfl, hc1, hi1⟩)
      go_ret
      rw [Hspec.out]
      exact ⟨rfl, hc1, _, by omega, hi1⟩
    | true =>
      have hspec : Tm.eachRun st (.mk f ks) s = Tm.eachRuns st ks (st s (.mk f ks)).2 := by simp only [Tm.eachRun]; rw [hr, if_pos rfl]
      have Hspec := Lib.hid hspec; clear hspec
      rw [hr] at hd
      have Hr := Lib.hid hr; clear hr
      clear hdo
      go_enter Try.func44, Try.ntmps44
      go_wp2_with ((refine (hd.out).mono ?_); rintro e w1 ⟨rfl, hc1, hi1⟩; have gy := hc1.cell hy)
      go_loopw [15] (fun i wr => ∃ (k : Nat) (s' : σ) (q' : Nat), k ≤ ks.length ∧ i = .int .i64 k ∧ Tm.eachRuns st ks (st s (.mk f ks)).2 = Tm.eachRuns st (ks.drop k) s' ∧ Ext w0 wr ∧ q' ≤ q + 1 + Tm.sizes (ks.take k) ∧ I wr s' q') (fun i _ => ks.length - (intOf i).toNat)
      case atStart => exact ⟨0, _, q + 1, Nat.zero_le _, rfl, rfl, hc1, by omega, hi1⟩
      case round =>
        obtain ⟨k, s', q', hkk, rfl, hck, hext', hq', hi'⟩ := hrel
        have Hck := Lib.hid hck; clear hck
        have gy' := hext'.cell hy
        clear hi1 hc1 gy
        by_cases hlt : k < ks.length
        · obtain ⟨b', o', a', c', rfl, h1, h2, h3⟩ := hk.look hlt
          have hst := sizes_take hlt
          have hst2 := sizes_take_le ks (k + 1)
          have hi2 := Hih.out _ (List.getElem_mem hlt) wr s' q' b' (o' + k * 2) _ _ (by omega) (by have := size_le_sizes hlt; omega) h1 h2 h3 hext' hi'
          have Hi := Lib.hid hi2; clear hi2
          have Hst := Lib.hid (eachRuns_step st (s := s') hlt)
          clear hy hx
          have hk1 : (k : Int) < ks.length := by omega
          go_wp2_with ((refine (Hi.out).mono ?_); rintro e w2 ⟨rfl, hc2, q2, hq2, hi2⟩)
          · go_ret
            have hb : (Tm.eachRun st ks[k] s').fst = false := by simpa using ‹(!(Tm.eachRun st ks[k] s').fst) = true›
            have h := (Hspec.out.trans Hck.out).trans Hst.out
            rw [hb, if_neg (by simp)] at h
            rw [h]
            exact ⟨rfl, hc2, _, by omega, hi2⟩
          · have hb : (Tm.eachRun st ks[k] s').fst = true := by simpa using ‹(!(Tm.eachRun st ks[k] s').fst) = false›
            go_roundw
            case rel => exact ⟨k + 1, _, q2, by omega, by go_num, by rw [Hck.out, Hst.out, if_pos hb], hc2, by omega, hi2⟩
            case measure => simp [intOf]; omega
        · go_wp2_with fail
          go_ret
          have : k = ks.length := by omega
          subst this
          have h := Hspec.out.trans Hck.out
          rw [List.drop_length] at h
          rw [h]
          exact ⟨rfl, hext', _, by rw [List.take_length] at hq'; omega, hi'⟩
end
end Go.Proofs.Ytapoedcmhdlpfaa
