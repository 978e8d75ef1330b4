/- What term.Check's function answers at each part of a term.
Plain: interpretations, what terms are in them. No condition.
What the reference's Small, over and Check of layer 2 return.
Literals and clauses read from memory; what True and pred of the clause layer and of the reference return.
What Check of the clause layer returns.
What rows, values, place of the model layer return, and the reference's power. Conditions: at most three elements, at most six arguments. -/
import Derived.Test.YtapoedcmhdlpfaaQ2
import Derived.Test.YtapoedcmhdlpfaaQ4
import Derived.Test.YtapoedcmhdlpfaaQ5
import Derived.Test.YtapoedcmhdlpfaaQ0
import Derived.Deep.RegionHeld3
import Derived.Test.YtapoedcmhdlpfaaQ6
namespace Go.Proofs.Ytapoedcmhdlpfaa
open Go.ChangeShapes Go.WideShapes Go.ChangeAt Go.RowKit
/-- may a symbol stand there, with so many arguments? -/
def okAt (l : List Sy) (top : Bool) (t : Tm) : Bool :=
  if t.f < 0 then true else match l[t.f.toNat]? with
    | none => false
    | some s => (s.arity == (t.ks.length : Int)) && (top || !s.pred)
def chkSt (l : List Sy) (top : Bool) (t : Tm) : Bool × Bool := (okAt l top t, false)

mutual
def Tm.over (l : List Sy) (top : Bool) : Tm → Bool
  | .mk f ks => okAt l top (.mk f ks) && (decide (f < 0) || Tm.overs l ks)
def Tm.overs (l : List Sy) : List Tm → Bool
  | [] => true
  | t :: ts => Tm.over l false t && Tm.overs l ts
end
theorem each_over (l : List Sy) (m : Int) (t : Tm) : ∀ top, t.low m = true → (t.eachRun (chkSt l) top).1 = t.over l top ∧ (t.eachRun (chkSt l) top).2 = false := by
  refine Tm.rec (motive_1 := fun t => ∀ top, t.low m = true → (t.eachRun (chkSt l) top).1 = t.over l top ∧ (t.eachRun (chkSt l) top).2 = false)
    (motive_2 := fun ks => Tm.lows m ks = true → (Tm.eachRuns (chkSt l) ks false).1 = Tm.overs l ks ∧ (Tm.eachRuns (chkSt l) ks false).2 = false) ?_ ?_ ?_ t
  · intro f ks ih top hl
    simp only [Tm.eachRun, Tm.over]
    have e1 : (chkSt l top (.mk f ks)).1 = okAt l top (.mk f ks) := rfl
    have e2 : (chkSt l top (.mk f ks)).2 = false := rfl
    by_cases ho : (chkSt l top (.mk f ks)).1 = true
    · rw [if_pos ho, ← e1, ho, e2]
      simp only [Bool.true_and]
      simp only [Tm.low] at hl
      by_cases hf : f < 0
      · rw [if_pos hf, Bool.and_eq_true, decide_eq_true_eq, decide_eq_true_eq] at hl
        have : ks = [] := List.eq_nil_of_length_eq_zero hl.2
        subst this
        simp [Tm.eachRuns, hf]
      · rw [if_neg hf] at hl
        have := ih hl
        simp [this, hf]
    · rw [if_neg ho, ← e1, e2]
      simp [ho]
  · intro _; simp [Tm.eachRuns, Tm.overs]
  · intro t ts ih1 ih2 hl
    simp only [Tm.lows, Bool.and_eq_true] at hl
    simp only [Tm.eachRuns, Tm.overs]
    obtain ⟨a1, a2⟩ := ih1 false hl.1
    cases h : (t.eachRun (chkSt l) false).1 with
    | false => rw [← a1, h]; simp [a2]
    | true => rw [← a1, h, if_pos rfl, a2]; simpa using ih2 hl.2

/-- the cell that tells whether the top comes next -/
def ChkI (bt : Nat) (w : World) (top : Bool) : Prop := w.cell? ⟨bt, 0, none⟩ = some (.bool top) ∧ w.frozen? ⟨bt, 0, none⟩ = false

set_option maxHeartbeats 400000 in
set_option maxRecDepth 100000 in
theorem chk_A (w : World) (b o bt bs i n l c cl _b2 _o2 : Nat) (a' : Option Addr) (top : Bool) (_hl : l ≤ 1048576) (_hi63 : (i : Int) ≤ 9223372036854775807) (gx : w.cell? ⟨b, o, none⟩ = some (.int .i64 i)) (_gy : w.cell? ⟨b, o + 1, none⟩ = some (.slice a' n cl)) (a : Option Addr) (gs : w.cell? ⟨bs, 0, none⟩ = some (.slice a l c)) (hb1 : b ≠ bt) (hb2 : bs ≠ bt)
    (hi1 : w.cell? ⟨bt, 0, none⟩ = some (.bool top)) (hi2 : w.frozen? ⟨bt, 0, none⟩ = false) (h1 : decide (i < l) = false) :
    Calls Try.prog 45 #[.pointer (some ⟨b, o, none⟩), .pointer (some ⟨bt, 0, none⟩), .pointer (some ⟨bs, 0, none⟩)] w
      fun e w' => e = .returned (.bool false) ∧ Chg [bt] w w' ∧ w'.cell? ⟨bt, 0, none⟩ = some (.bool false) ∧ w'.frozen? ⟨bt, 0, none⟩ = false := by
  go_enter Try.func45, Try.ntmps45
  go_wp2_with fail
  go_quiet (fail)
  go_wp2_with fail
  go_ret
  exact ⟨rfl, ((Chg.refl _ _).setCell _ (.inl (by simp))).drewN _, World.cell?_setCell_same _ _ _ hi1, (World.frozen?_setCell _ _ _ _).trans hi2⟩

set_option maxHeartbeats 400000 in
set_option maxRecDepth 100000 in
theorem chk_B (w : World) (b o bt bs i n l c cl b2 o2 : Nat) (a' : Option Addr) (top : Bool) (hl : l ≤ 1048576) (hi63 : (i : Int) ≤ 9223372036854775807) (gx : w.cell? ⟨b, o, none⟩ = some (.int .i64 i)) (gy : w.cell? ⟨b, o + 1, none⟩ = some (.slice a' n cl)) (a : Option Addr) (gs : w.cell? ⟨bs, 0, none⟩ = some (.slice a l c)) (hb1 : b ≠ bt) (hb2 : bs ≠ bt)
    (hi1 : w.cell? ⟨bt, 0, none⟩ = some (.bool top)) (hi2 : w.frozen? ⟨bt, 0, none⟩ = false) (ha : a = some ⟨b2, o2, none⟩) (hb3 : b2 ≠ bt) (ar : Int) (p : Bool) (hil : i < l) (hil' : (i : Int) < l) (g1 : w.cell? ⟨b2, o2 + i * 3 + 1, none⟩ = some (.int .i64 ar)) (_g2 : w.cell? ⟨b2, o2 + i * 3 + 2, none⟩ = some (.bool p)) (h2 : (ar == (n : Int)) = false) :
    Calls Try.prog 45 #[.pointer (some ⟨b, o, none⟩), .pointer (some ⟨bt, 0, none⟩), .pointer (some ⟨bs, 0, none⟩)] w
      fun e w' => e = .returned (.bool false) ∧ Chg [bt] w w' ∧ w'.cell? ⟨bt, 0, none⟩ = some (.bool false) ∧ w'.frozen? ⟨bt, 0, none⟩ = false := by
  subst ha
  go_enter Try.func45, Try.ntmps45
  go_wp2_with fail
  go_quiet (fail)
  go_wp2_with fail
  go_ret
  exact ⟨rfl, ((Chg.refl _ _).setCell _ (.inl (by simp))).drewN _, World.cell?_setCell_same _ _ _ hi1, (World.frozen?_setCell _ _ _ _).trans hi2⟩

set_option maxHeartbeats 400000 in
set_option maxRecDepth 100000 in
theorem chk_C (w : World) (b o bt bs i n l c cl b2 o2 : Nat) (a' : Option Addr) (top : Bool) (hl : l ≤ 1048576) (hi63 : (i : Int) ≤ 9223372036854775807) (gx : w.cell? ⟨b, o, none⟩ = some (.int .i64 i)) (gy : w.cell? ⟨b, o + 1, none⟩ = some (.slice a' n cl)) (a : Option Addr) (gs : w.cell? ⟨bs, 0, none⟩ = some (.slice a l c)) (hb1 : b ≠ bt) (hb2 : bs ≠ bt)
    (hi1 : w.cell? ⟨bt, 0, none⟩ = some (.bool top)) (hi2 : w.frozen? ⟨bt, 0, none⟩ = false) (ha : a = some ⟨b2, o2, none⟩) (hb3 : b2 ≠ bt) (ar : Int) (p : Bool) (hil : i < l) (hil' : (i : Int) < l) (g1 : w.cell? ⟨b2, o2 + i * 3 + 1, none⟩ = some (.int .i64 ar)) (_g2 : w.cell? ⟨b2, o2 + i * 3 + 2, none⟩ = some (.bool p)) (h2 : (ar == (n : Int)) = true) (ht : top = true) :
    Calls Try.prog 45 #[.pointer (some ⟨b, o, none⟩), .pointer (some ⟨bt, 0, none⟩), .pointer (some ⟨bs, 0, none⟩)] w
      fun e w' => e = .returned (.bool true) ∧ Chg [bt] w w' ∧ w'.cell? ⟨bt, 0, none⟩ = some (.bool false) ∧ w'.frozen? ⟨bt, 0, none⟩ = false := by
  subst ha
  subst ht
  go_enter Try.func45, Try.ntmps45
  go_wp2_with fail
  go_quiet (fail)
  go_wp2_with fail
  go_ret
  exact ⟨rfl, ((Chg.refl _ _).setCell _ (.inl (by simp))).drewN _, World.cell?_setCell_same _ _ _ hi1, (World.frozen?_setCell _ _ _ _).trans hi2⟩

set_option maxHeartbeats 400000 in
set_option maxRecDepth 100000 in
theorem chk_D (w : World) (b o bt bs i n l c cl b2 o2 : Nat) (a' : Option Addr) (top : Bool) (hl : l ≤ 1048576) (hi63 : (i : Int) ≤ 9223372036854775807) (gx : w.cell? ⟨b, o, none⟩ = some (.int .i64 i)) (gy : w.cell? ⟨b, o + 1, none⟩ = some (.slice a' n cl)) (a : Option Addr) (gs : w.cell? ⟨bs, 0, none⟩ = some (.slice a l c)) (hb1 : b ≠ bt) (hb2 : bs ≠ bt)
    (hi1 : w.cell? ⟨bt, 0, none⟩ = some (.bool top)) (hi2 : w.frozen? ⟨bt, 0, none⟩ = false) (ha : a = some ⟨b2, o2, none⟩) (hb3 : b2 ≠ bt) (ar : Int) (p : Bool) (hil : i < l) (hil' : (i : Int) < l) (g1 : w.cell? ⟨b2, o2 + i * 3 + 1, none⟩ = some (.int .i64 ar)) (g2 : w.cell? ⟨b2, o2 + i * 3 + 2, none⟩ = some (.bool p)) (h2 : (ar == (n : Int)) = true) (ht : top = false) :
    Calls Try.prog 45 #[.pointer (some ⟨b, o, none⟩), .pointer (some ⟨bt, 0, none⟩), .pointer (some ⟨bs, 0, none⟩)] w
      fun e w' => e = .returned (.bool (!p)) ∧ Chg [bt] w w' ∧ w'.cell? ⟨bt, 0, none⟩ = some (.bool false) ∧ w'.frozen? ⟨bt, 0, none⟩ = false := by
  subst ha
  subst ht
  go_enter Try.func45, Try.ntmps45
  go_wp2_with fail
  go_quiet (fail)
  go_wp2_with fail
  go_ret
  exact ⟨rfl, ((Chg.refl _ _).setCell _ (.inl (by simp))).drewN _, World.cell?_setCell_same _ _ _ hi1, (World.frozen?_setCell _ _ _ _).trans hi2⟩

set_option maxHeartbeats 1000000 in
set_option maxRecDepth 100000 in
theorem chk_any (l : List Sy) (hl : l.length ≤ 1048576) (w0 : World) (bt bs : Nat) (a : Option Addr) (c n : Nat) (hs0 : w0.cell? ⟨bs, 0, none⟩ = some (.slice a l.length c)) (hsy : IsSyms w0 a l) (hbt : w0.heap.size ≤ bt) :
    Does (chkSt l) 45 #[.pointer (some ⟨bt, 0, none⟩), .pointer (some ⟨bs, 0, none⟩)] w0 [bt] (ChkI bt) n := by
  intro w top t b o x y _ hx hy ht hext hi
  obtain ⟨hi1, hi2⟩ := hi
  obtain ⟨a', c', rfl, rfl, hf1, hf2, -, -⟩ := ht.form
  have gx := hext.cell hx
  have gy := hext.cell hy
  have gs := hext.cell hs0
  have hsy' := hsy.ext hext
  have hb1 : b ≠ bt := by have := cell_lt hx; simp at this; omega
  have hb2 : bs ≠ bt := by have := cell_lt hs0; simp at this; omega
  show Calls Try.prog 45 #[.pointer (some ⟨b, o, none⟩), .pointer (some ⟨bt, 0, none⟩), .pointer (some ⟨bs, 0, none⟩)] w _
  by_cases hf : t.f < 0
  · have hspec : okAt l top t = true := by unfold okAt; rw [if_pos hf]
    have Hspec := Lib.hid hspec; clear hspec
    go_enter Try.func45, Try.ntmps45
    go_wp2_with fail
    go_ret
    exact ⟨by simp only [chkSt, Hspec.out]; rfl, (Chg.refl _ _).setCell _ (.inl (by simp)), World.cell?_setCell_same _ _ _ hi1, (World.frozen?_setCell _ _ _ _).trans hi2⟩
  · obtain ⟨i, hi0⟩ : ∃ i : Nat, t.f = i := ⟨t.f.toNat, by omega⟩
    have hok : okAt l top t = match l[i]? with
      | none => false
      | some s => (s.arity == (t.ks.length : Int)) && (top || !s.pred) := by
      unfold okAt; rw [if_neg hf, hi0]; rfl
    have e1 : (chkSt l top t).1 = okAt l top t := rfl
    have e2 : (chkSt l top t).2 = false := rfl
    rw [e1, e2, hok]
    rw [hi0] at gx hf2
    unfold ChkI
    by_cases hil : i < l.length
    · obtain ⟨b2, o2, rfl, hok2, g0, g1, g2⟩ := hsy'.look hil
      have hb3 : b2 ≠ bt := by
        obtain ⟨b3, o3, e3, -, k0, -, -⟩ := hsy.look hil
        have := cell_lt k0
        simp only [Option.some.injEq, Addr.mk.injEq, and_true] at e3
        simp at this; omega
      rw [List.getElem?_eq_getElem hil]
      cases hq : (l[i].arity == (t.ks.length : Int)) with
      | false => exact (chk_B w b o bt bs i _ _ c _ b2 o2 a' top hl hf2 gx gy _ gs hb1 hb2 hi1 hi2 rfl hb3 _ _ hil (by omega) g1 g2 hq).mono fun e w' ⟨he, h⟩ => ⟨by rw [he]; simp [hq], h⟩
      | true =>
        cases top with
        | true => exact (chk_C w b o bt bs i _ _ c _ b2 o2 a' true hl hf2 gx gy _ gs hb1 hb2 hi1 hi2 rfl hb3 _ _ hil (by omega) g1 g2 hq rfl).mono fun e w' ⟨he, h⟩ => ⟨by rw [he]; simp [hq], h⟩
        | false => exact (chk_D w b o bt bs i _ _ c _ b2 o2 a' false hl hf2 gx gy _ gs hb1 hb2 hi1 hi2 rfl hb3 _ _ hil (by omega) g1 g2 hq rfl).mono fun e w' ⟨he, h⟩ => ⟨by rw [he]; simp [hq], h⟩
    · rw [List.getElem?_eq_none (by omega)]
      exact chk_A w b o bt bs i _ _ c _ 0 0 a' top hl hf2 gx gy _ gs hb1 hb2 hi1 hi2 (decide_eq_false hil)

def termCheck (l : List Sy) (t : Tm) : Int := if sigCheck l = 0 ∧ t.small 48 = true ∧ t.over l true = true then 0 else 2

theorem callFunc55 (a : Array Value) (w : World) : (callFunc 45 a).run Try.prog w = .ok (.enter 45 a) w := by
  go_simp

set_option maxHeartbeats 1000000 in
set_option maxRecDepth 100000 in
theorem termCheck_any (l : List Sy) (hl : l.length ≤ 1048576) (t : Tm) (hs : t.size ≤ 2097152) (w : World) (a : Option Addr) (c : Nat) (hlc : l.length ≤ c) (hc63 : c ≤ 9223372036854775807) (hsy : IsSyms w a l) (x s : Value) (ht : IsTm w x s t) :
    Calls Try.prog 17 #[.agg #[.slice a l.length c], .agg #[x, s]] w fun e w' => e = .returned (.int .i64 (termCheck l t)) ∧ Ext w w' := by
  have ht0 := ht
  obtain ⟨a', c', rfl, rfl, -, -, -, -⟩ := ht.form
  obtain ⟨W1, hW1⟩ : ∃ W1, W1 = w.alloc (.cells #[.slice a l.length c] 24) := ⟨_, rfl⟩
  obtain ⟨W2, hW2⟩ : ∃ W2, W2 = W1.alloc (.cells #[.int .i64 t.f, .slice a' t.ks.length c'] 30) := ⟨_, rfl⟩
  have hx1 : Ext w W2 := by subst hW2; subst hW1; go_grown
  have k0 : W2.cell? ⟨w.heap.size, 0, none⟩ = some (.slice a l.length c) := by subst hW2; subst hW1; go_simp
  have k1 : W2.cell? ⟨w.heap.size + 1, 0, none⟩ = some (.int .i64 t.f) := by subst hW2; subst hW1; go_simp
  have k2 : W2.cell? ⟨w.heap.size + 1, 1, none⟩ = some (.slice a' t.ks.length c') := by subst hW2; subst hW1; go_simp
  have hcheck := sigCheck_any l hl W2 a c hlc hc63 (hsy.ext hx1)
  subst hW1
  have Hcheck := Lib.hid hcheck; clear hcheck
  have Hk := Lib.hid (And.intro k0 (And.intro k1 k2)); clear k0 k1 k2
  have HW2 := Lib.hid hW2; clear hW2
  have hsm : ∀ w1, Ext W2 w1 → Calls Try.prog 43 #[.agg #[.int .i64 t.f, .slice a' t.ks.length c'], .int .i64 48] w1 fun e w' => e = .returned (.bool (t.small 48)) ∧ Ext w1 w' := fun w1 h1 => small_any 48 (by omega) (by omega) t w1 _ _ (ht0.ext (Ext.trans hx1 h1)) hs
  have Hsm := Lib.hid hsm; clear hsm
  have hea : ∀ w1, Ext W2 w1 → Calls Try.prog 44 #[.pointer (some ⟨w.heap.size + 1, 0, none⟩), .func (.func 45) #[] #[.pointer (some ⟨w1.heap.size, 0, none⟩), .pointer (some ⟨w.heap.size, 0, none⟩)]] (w1.alloc (.cells #[.bool true] 4)) fun e w' => e = .returned (.bool (t.eachRun (chkSt l) true).1) ∧ Ext W2 w' := by
    intro w1 h1
    have q := h1.cell Hk.out.1
    have q1 := h1.cell Hk.out.2.1
    have q2 := h1.cell Hk.out.2.2
    refine (each_any (chkSt l) 45 callFunc55 #[.pointer (some ⟨w1.heap.size, 0, none⟩), .pointer (some ⟨w.heap.size, 0, none⟩)] w1 [w1.heap.size] (by simp) (ChkI w1.heap.size) 2097152 (Nat.le_refl _) (chk_any l hl w1 w1.heap.size w.heap.size a c 2097152 q (hsy.ext (Ext.trans hx1 h1)) (Nat.le_refl _)) t (w1.alloc (.cells #[.bool true] 4)) true (w.heap.size + 1) 0 _ _ hs q1 q2 (ht0.ext (Ext.trans hx1 h1)) (ext_alloc _ _) ⟨by go_simp, by go_simp⟩).mono ?_
    rintro e w' ⟨rfl, hc, -⟩
    exact ⟨rfl, Chg.ext (Ext.trans h1 (ext_alloc _ _)) hc (by simp; exact h1.size)⟩
  have Hea := Lib.hid hea; clear hea
  clear ht ht0
  cases hz : (sigCheck l != 0) with
  | true =>
    have hres : termCheck l t = 2 := by unfold termCheck; rw [if_neg (by intro h; simp [h.1] at hz)]
    have Hres := Lib.hid hres; clear hres
    go_enter Try.func17, Try.ntmps17
    go_wp2_with ((rw [← HW2.out]; refine (Hcheck.out).mono ?_); rintro e w1 ⟨rfl, hx2⟩)
    go_ret
    exact ⟨by rw [Hres.out]; rfl, Ext.trans hx1 hx2⟩
  | false =>
    have hz0 : sigCheck l = 0 := by simpa using hz
    have Hz0 := Lib.hid hz0; clear hz0
    cases hs48 : t.small 48 with
    | false =>
      have hres : termCheck l t = 2 := by unfold termCheck; rw [if_neg (by intro h; rw [hs48] at h; simp at h)]
      have Hres := Lib.hid hres; clear hres
      go_enter Try.func17, Try.ntmps17
      go_wp2_with (first
        | ((rw [← HW2.out]; refine (Hcheck.out).mono ?_); rintro e w1 ⟨rfl, hx2⟩; obtain ⟨k0, k1, k2⟩ : w1.cell? ⟨w.heap.size, 0, none⟩ = some (.slice a l.length c) ∧ w1.cell? ⟨w.heap.size + 1, 0, none⟩ = some (.int .i64 t.f) ∧ w1.cell? ⟨w.heap.size + 1, 1, none⟩ = some (.slice a' t.ks.length c') := ⟨hx2.cell Hk.out.1, hx2.cell Hk.out.2.1, hx2.cell Hk.out.2.2⟩)
        | (go_at_call 43; refine (Hsm.out _ hx2).mono ?_; rintro e w2 ⟨rfl, hx3⟩))
      go_ret
      exact ⟨by rw [Hres.out]; rfl, Ext.trans hx1 (Ext.trans hx2 hx3)⟩
    | true =>
      have hlow : t.low 48 = true := by unfold Tm.small at hs48; simp at hs48; exact hs48.2
      have hres : termCheck l t = if t.over l true then 0 else 2 := by
        unfold termCheck; rw [Hz0.out, hs48]; cases t.over l true <;> simp
      have Hres := Lib.hid hres; clear hres
      rw [(each_over l 48 t true hlow).1] at Hea
      clear hlow
      go_enter Try.func17, Try.ntmps17
      go_wp2_with (first
        | ((rw [← HW2.out]; refine (Hcheck.out).mono ?_); rintro e w1 ⟨rfl, hx2⟩; obtain ⟨k0, k1, k2⟩ : w1.cell? ⟨w.heap.size, 0, none⟩ = some (.slice a l.length c) ∧ w1.cell? ⟨w.heap.size + 1, 0, none⟩ = some (.int .i64 t.f) ∧ w1.cell? ⟨w.heap.size + 1, 1, none⟩ = some (.slice a' t.ks.length c') := ⟨hx2.cell Hk.out.1, hx2.cell Hk.out.2.1, hx2.cell Hk.out.2.2⟩)
        | (go_at_call 43; refine (Hsm.out _ hx2).mono ?_; rintro e w2 ⟨rfl, hx3⟩)
        | (go_at_call 44; refine (Hea.out _ (Ext.trans hx2 hx3)).mono ?_; rintro e w3 ⟨rfl, hx4⟩))
      · have hb : t.over l true = false := by simpa using ‹(!t.over l true) = true›
        go_ret
        refine ⟨ret_int ?_, Ext.trans hx1 hx4⟩
        rw [Hres.out, hb]; rfl
      · have hb : t.over l true = true := by simpa using ‹(!t.over l true) = false›
        go_ret
        refine ⟨ret_int ?_, Ext.trans hx1 hx4⟩
        rw [Hres.out, hb]; rfl
end Go.Proofs.Ytapoedcmhdlpfaa
namespace Go.Proofs.Ytapoedcmhdlpfaa
open Go.ChangeShapes Go.WideShapes Go.ChangeAt Go.RowKit
/-- so many values has a symbol -/
def Sy.top (sz : Int) (s : Sy) : Int := if s.pred then 2 else sz
def cellOk (top x : Int) : Bool := decide (0 ≤ x) && decide (x < top)
def rowOk (sz : Int) (s : Sy) (r : List Int) : Bool := decide (r.length = sz.toNat ^ s.arity.toNat) && r.all (cellOk (s.top sz))
def rowsOk (sz : Int) (l : List Sy) (tb : List (List Int)) : Bool := (l.zip tb).all fun p => rowOk sz p.1 p.2
def firstOne (tb : List (List Int)) : Bool := (tb.headD []).headD 0 == 1
def sizeOk (l : List Sy) (sz : Int) (tb : List (List Int)) : Prop := 1 ≤ sz ∧ sz ≤ 3 ∧ tb.length = l.length
instance (l : List Sy) (sz : Int) (tb : List (List Int)) : Decidable (sizeOk l sz tb) := by unfold sizeOk; exact inferInstance
/-- an interpretation that may be -/
def modCheck (l : List Sy) (sz : Int) (tb : List (List Int)) : Int := if sigCheck l = 0 ∧ sizeOk l sz tb ∧ rowsOk sz l tb = true ∧ firstOne tb = true then 0 else 2
theorem modCases (l : List Sy) (sz : Int) (tb : List (List Int)) : modCheck l sz tb = 0 ∨ modCheck l sz tb = 2 := by unfold modCheck; split <;> simp

theorem ckRef_all {l : List Sy} : ∀ {r : List Sy} {i : Nat}, ckRef l r i = 0 → ∀ x ∈ r, x.one = 0
  | [], _, _, x, hx => by cases hx
  | y :: r, i, h, x, hx => by
    simp only [ckRef] at h
    split at h
    · rename_i h1; exact absurd h h1
    · rename_i h1
      split at h
      · cases h
      · rcases List.mem_cons.1 hx with rfl | hx
        · simpa using h1
        · exact ckRef_all h x hx
/-- a signature that may be -/
theorem sig_facts {l : List Sy} (h : sigCheck l = 0) : 1 ≤ l.length ∧ l.length ≤ 96 ∧ (∀ (h0 : 0 < l.length), l[0].arity = 0 ∧ l[0].pred = true) ∧ ∀ i (hi : i < l.length), 0 ≤ l[i].arity ∧ l[i].arity ≤ 6 := by
  unfold sigCheck at h
  split at h
  · cases h
  · rename_i hl
    cases l with
    | nil => simp at h
    | cons t r =>
      simp only at h
      split at h
      · rename_i ht
        simp only [Sy.eqB, decide_eq_true_eq] at ht
        obtain ⟨h1, h2, h3⟩ := ht
        refine ⟨by simp, by omega, fun _ => ⟨h2, h3⟩, fun i hi => ?_⟩
        cases i with
        | zero => simp only [List.getElem_cons_zero]; rw [h2]; simp [Sy.truth]
        | succ i =>
          have h1 := ckRef_all h _ (List.getElem_mem (show i < r.length by simpa using hi))
          simp only [List.getElem_cons_succ]
          unfold Sy.one at h1
          split at h1
          · cases h1
          · split at h1
            · cases h1
            · omega
      · cases h

theorem rowsOk_at {sz : Int} {l : List Sy} {tb : List (List Int)} (h : rowsOk sz l tb = true) {k : Nat} (h1 : k < l.length) (h2 : k < tb.length) : tb[k].length = sz.toNat ^ l[k].arity.toNat ∧ ∀ x ∈ tb[k], 0 ≤ x ∧ x < l[k].top sz := by
  unfold rowsOk at h
  rw [List.all_eq_true] at h
  have h3 : k < (l.zip tb).length := by rw [List.length_zip]; omega
  have h4 := h _ (List.getElem_mem h3)
  rw [List.getElem_zip] at h4
  simp only [rowOk, Bool.and_eq_true, decide_eq_true_eq, List.all_eq_true] at h4
  exact ⟨h4.1, fun x hx => by have := h4.2 x hx; simpa [cellOk] using this⟩
theorem zip_bad {sz : Int} {l : List Sy} {tb : List (List Int)} {k : Nat} (h1 : k < l.length) (h2 : k < tb.length) (h : rowOk sz l[k] tb[k] = false) : rowsOk sz l tb = false := by
  cases hr : rowsOk sz l tb with
  | false => rfl
  | true =>
    unfold rowsOk at hr
    rw [List.all_eq_true] at hr
    have h3 : k < (l.zip tb).length := by rw [List.length_zip]; omega
    have h4 := hr _ (List.getElem_mem h3)
    rw [List.getElem_zip, h] at h4; cases h4
theorem zip_step {sz : Int} {l : List Sy} {tb : List (List Int)} {k : Nat} (h1 : k < l.length) (h2 : k < tb.length) (h : ((l.zip tb).take k).all (fun p => rowOk sz p.1 p.2) = true) (h3 : rowOk sz l[k] tb[k] = true) : ((l.zip tb).take (k + 1)).all (fun p => rowOk sz p.1 p.2) = true := by
  have h4 : k < (l.zip tb).length := by rw [List.length_zip]; omega
  rw [List.take_succ_eq_append_getElem h4, List.all_append, h, List.getElem_zip]
  simpa using h3
theorem zip_done {sz : Int} {l : List Sy} {tb : List (List Int)} (hl : tb.length = l.length) (h : ((l.zip tb).take l.length).all (fun p => rowOk sz p.1 p.2) = true) : rowsOk sz l tb = true := by
  rw [List.take_of_length_le (by rw [List.length_zip]; omega)] at h
  exact h
theorem modCheck_bad {l : List Sy} {sz : Int} {tb : List (List Int)} (h : ¬ (sigCheck l = 0 ∧ sizeOk l sz tb ∧ rowsOk sz l tb = true ∧ firstOne tb = true)) : modCheck l sz tb = 2 := by unfold modCheck; rw [if_neg h]
theorem mod_parts {l : List Sy} {sz : Int} {tb : List (List Int)} (h : modCheck l sz tb = 0) : sigCheck l = 0 ∧ (∃ s : Nat, sz = s ∧ 1 ≤ s ∧ s ≤ 3) ∧ tb.length = l.length ∧ rowsOk sz l tb = true ∧ firstOne tb = true := by
  unfold modCheck at h
  split at h
  · rename_i h1
    obtain ⟨h1, ⟨h2, h3, h4⟩, h5, h6⟩ := h1
    exact ⟨h1, ⟨sz.toNat, by omega, by omega, by omega⟩, h4, h5, h6⟩
  · cases h
/-- the first row is one number -/
theorem first_row {l : List Sy} {sz : Int} {tb : List (List Int)} (hs : sigCheck l = 0) (ht : tb.length = l.length) (hr : rowsOk sz l tb = true) (h0 : 0 < tb.length) : tb[0].length = 1 := by
  obtain ⟨h1, -, h2, -⟩ := sig_facts hs
  have h3 := (rowsOk_at hr (k := 0) (by omega) h0).1
  rw [(h2 (by omega)).1] at h3
  simpa using h3
theorem firstOne_at {tb : List (List Int)} (h0 : 0 < tb.length) (h1 : 0 < tb[0].length) : firstOne tb = (tb[0][0] == 1) := by
  cases tb with
  | nil => simp at h0
  | cons r tb =>
    simp only [List.getElem_cons_zero] at h1 ⊢
    cases r with
    | nil => simp at h1
    | cons x r => rfl

theorem pow_le3 {s : Nat} (_hs : 1 ≤ s) (h3 : s ≤ 3) {n : Nat} (hn : n ≤ 6) : s ^ n ≤ 729 :=
  Nat.le_trans (Nat.pow_le_pow_left h3 n) (Nat.le_trans (Nat.pow_le_pow_right (by omega) hn) (by decide))
theorem placeAt_snoc (sz : Int) (row : List Int) (x : Int) : placeAt sz (row ++ [x]) = placeAt sz row * sz + x := by unfold placeAt; rw [List.foldl_append]; rfl
theorem placeAt_take {sz : Int} {row : List Int} {k : Nat} (h : k < row.length) : placeAt sz (row.take (k + 1)) = placeAt sz (row.take k) * sz + row[k] := by
  rw [List.take_succ_eq_append_getElem h, placeAt_snoc]
theorem placeAt_range {s : Nat} : ∀ (n : Nat) (row : List Int), row.length = n → (∀ x ∈ row, 0 ≤ x ∧ x < (s : Int)) → 0 ≤ placeAt s row ∧ placeAt s row < ((s ^ n : Nat) : Int)
  | 0, row, hl, _ => by
    have : row = [] := List.eq_nil_of_length_eq_zero hl
    subst this
    simp [placeAt]
  | n + 1, row, hl, h => by
    have hk : n < row.length := by omega
    have h1 := placeAt_range n (row.take n) (by rw [List.length_take]; omega) fun x hx => h x (List.mem_of_mem_take hx)
    have h2 := h row[n] (List.getElem_mem hk)
    have h3 : row = row.take (n + 1) := by rw [List.take_of_length_le (by omega)]
    rw [h3, placeAt_take hk]
    have h4 : (placeAt s (row.take n) + 1) * (s : Int) ≤ ((s ^ n : Nat) : Int) * s := Int.mul_le_mul_of_nonneg_right (by omega) (by omega)
    have h5 : 0 ≤ placeAt s (row.take n) * (s : Int) := Int.mul_nonneg h1.1 (by omega)
    rw [Int.add_mul] at h4
    rw [Nat.pow_succ, Int.natCast_mul]
    omega
theorem placeAt_bound {s : Nat} (hs : 1 ≤ s) (h3 : s ≤ 3) {row : List Int} (hl : row.length ≤ 6) (h : ∀ x ∈ row, 0 ≤ x ∧ x < (s : Int)) (k : Nat) : 0 ≤ placeAt s (row.take k) ∧ placeAt s (row.take k) < 729 := by
  have h1 := placeAt_range (s := s) (row.take k).length (row.take k) rfl fun x hx => h x (List.mem_of_mem_take hx)
  have h2 := pow_le3 hs h3 (n := (row.take k).length) (by rw [List.length_take]; omega)
  omega

theorem vals_length (sz : Int) (tb : List (List Int)) (env : Int → Int) : ∀ ts : List Tm, (Tm.vals sz tb env ts).length = ts.length
  | [] => rfl
  | t :: ts => by simp only [Tm.vals, List.length_cons]; rw [vals_length sz tb env ts]
theorem vals_at (sz : Int) (tb : List (List Int)) (env : Int → Int) : ∀ (ts : List Tm) (k : Nat) (h : k < ts.length), (Tm.vals sz tb env ts)[k]'(by rw [vals_length]; exact h) = Tm.val sz tb env ts[k]
  | [], k, h => by simp at h
  | t :: ts, 0, _ => rfl
  | t :: ts, k + 1, h => by simp only [Tm.vals, List.getElem_cons_succ]; exact vals_at sz tb env ts k (by simpa using h)
theorem vals_take {sz : Int} {tb : List (List Int)} {env : Int → Int} {ts : List Tm} {k : Nat} (h : k < ts.length) : (Tm.vals sz tb env ts).take (k + 1) = (Tm.vals sz tb env ts).take k ++ [Tm.val sz tb env ts[k]] := by
  rw [List.take_succ_eq_append_getElem (by rw [vals_length]; exact h), vals_at sz tb env ts k h]

theorem overs_at {l : List Sy} : ∀ {ts : List Tm}, Tm.overs l ts = true → ∀ {k : Nat} (h : k < ts.length), ts[k].over l false = true
  | [], _, k, h => by simp at h
  | t :: ts, ho, 0, _ => by simp only [Tm.overs, Bool.and_eq_true] at ho; exact ho.1
  | t :: ts, ho, k + 1, h => by simp only [Tm.overs, Bool.and_eq_true] at ho; exact overs_at ho.2 (by simpa using h)
theorem low_kid {m : Int} : ∀ {ts : List Tm}, Tm.lows m ts = true → ∀ {k : Nat} (h : k < ts.length), ts[k].low m = true
  | [], _, k, h => by simp at h
  | t :: ts, ho, 0, _ => by simp only [Tm.lows, Bool.and_eq_true] at ho; exact ho.1
  | t :: ts, ho, k + 1, h => by simp only [Tm.lows, Bool.and_eq_true] at ho; exact low_kid ho.2 (by simpa using h)
/-- a term that may be over a signature: its symbol, its arguments -/
theorem over_parts {l : List Sy} {b : Bool} {f : Int} {ks : List Tm} (ho : Tm.over l b (.mk f ks) = true) (hf : ¬ f < 0) : ∃ h : f.toNat < l.length, l[f.toNat].arity = (ks.length : Int) ∧ (b = true ∨ l[f.toNat].pred = false) ∧ Tm.overs l ks = true := by
  simp only [Tm.over, Bool.and_eq_true, Bool.or_eq_true, decide_eq_true_eq] at ho
  obtain ⟨h1, h2⟩ := ho
  unfold okAt at h1
  rw [if_neg (show ¬ (Tm.mk f ks).f < 0 from hf)] at h1
  simp only [Tm.f, Tm.ks] at h1
  rcases Nat.lt_or_ge f.toNat l.length with h3 | h3
  · rw [List.getElem?_eq_getElem h3] at h1
    simp only [Bool.and_eq_true, beq_iff_eq, Bool.or_eq_true, Bool.not_eq_true'] at h1
    exact ⟨h3, h1.1, h1.2, h2.resolve_left hf⟩
  · rw [List.getElem?_eq_none h3] at h1; cases h1
theorem low_var {m : Int} {f : Int} {ks : List Tm} (h : Tm.low m (.mk f ks) = true) (hf : f < 0) : -m ≤ f ∧ ks = [] := by
  simp only [Tm.low] at h
  rw [if_pos hf] at h
  simp only [Bool.and_eq_true, decide_eq_true_eq] at h
  exact ⟨h.1, List.eq_nil_of_length_eq_zero h.2⟩
theorem low_fun {m : Int} {f : Int} {ks : List Tm} (h : Tm.low m (.mk f ks) = true) (hf : ¬ f < 0) : Tm.lows m ks = true := by
  simp only [Tm.low] at h
  rw [if_neg hf] at h
  exact h
/-- where a term's value stands -/
theorem val_place {l : List Sy} {s : Nat} {tb : List (List Int)} (h : modCheck l s tb = 0) {f : Nat} (hf : f < l.length) {row : List Int} (hl : (row.length : Int) = l[f].arity) (hr : ∀ x ∈ row, 0 ≤ x ∧ x < (s : Int)) :
    ∃ (h1 : f < tb.length) (p : Nat) (h2 : p < tb[f].length), placeAt s row = p ∧ p < 729 ∧ 0 ≤ tb[f][p] ∧ tb[f][p] < l[f].top s := by
  obtain ⟨h1, ⟨s', hs', hs1, hs2⟩, h3, h4, -⟩ := mod_parts h
  obtain rfl : s = s' := by omega
  obtain ⟨-, -, -, hsig⟩ := sig_facts h1
  have hft : f < tb.length := by omega
  obtain ⟨q1, q2⟩ := rowsOk_at h4 hf hft
  have q3 := placeAt_range (s := s) row.length row rfl hr
  have q4 := hsig f hf
  have q5 : l[f].arity.toNat = row.length := by omega
  rw [q5] at q1
  have q6 : (s : Int).toNat = s := by omega
  rw [q6] at q1
  have q7 := pow_le3 hs1 hs2 (n := row.length) (by omega)
  refine ⟨hft, (placeAt s row).toNat, by omega, by omega, by omega, ?_⟩
  exact q2 _ (List.getElem_mem _)
/-- values of terms proper -/
theorem val_range {l : List Sy} {s : Nat} {tb : List (List Int)} (h : modCheck l s tb = 0) {env : Int → Int} (he : ∀ v, 0 ≤ env v ∧ env v < (s : Int)) (t : Tm) : ∀ b, t.over l b = true → t.f < (l.length : Int) → 0 ≤ t.val s tb env ∧ (b = false → t.val s tb env < (s : Int)) ∧ t.val s tb env < 4 := by
  induction t using Tm.ind with
  | h f ks ih =>
    intro b ho hlt
    obtain ⟨-, ⟨s', hs', hs1, hs2⟩, -, -, -⟩ := mod_parts h
    simp only [Tm.val]
    by_cases hf : f < 0
    · rw [if_pos hf]
      have := he (-1 - f)
      exact ⟨by omega, fun _ => by omega, by omega⟩
    · rw [if_neg hf]
      obtain ⟨h1, h2, h3, h4⟩ := over_parts ho hf
      have hrow : ∀ x ∈ Tm.vals s tb env ks, 0 ≤ x ∧ x < (s : Int) := fun x hx => by
        obtain ⟨k, hk, rfl⟩ := List.mem_iff_getElem.1 hx
        rw [vals_length] at hk
        rw [vals_at _ _ _ _ _ hk]
        have ho2 := overs_at h4 hk
        have := ih _ (List.getElem_mem hk) false ho2 (by
          cases hc : ks[k] with
          | mk g us =>
            rw [hc] at ho2
            simp only [Tm.f]
            by_cases hg : g < 0
            · omega
            · obtain ⟨h5, -⟩ := over_parts ho2 hg; omega)
        exact ⟨this.1, this.2.1 rfl⟩
      obtain ⟨q1, p, q2, q3, q4, q5, q6⟩ := val_place h h1 (row := Tm.vals s tb env ks) (by rw [vals_length]; exact h2.symm) hrow
      rw [q3, Int.toNat_natCast]
      have e : (tb.getD f.toNat []).getD p 0 = tb[f.toNat][p] := by
        simp [List.getD, List.getElem?_eq_getElem q1, List.getElem?_eq_getElem q2]
      rw [e]
      have htop : l[f.toNat].top (s : Int) = 2 ∨ l[f.toNat].top (s : Int) = s := by unfold Sy.top; split <;> simp
      refine ⟨q5, fun hb => ?_, by omega⟩
      rcases h3 with h3 | h3
      · rw [hb] at h3; cases h3
      · unfold Sy.top at q6; rw [h3] at q6; simpa using q6
theorem vals_range {l : List Sy} {s : Nat} {tb : List (List Int)} (h : modCheck l s tb = 0) {env : Int → Int} (he : ∀ v, 0 ≤ env v ∧ env v < (s : Int)) {ks : List Tm} (ho : Tm.overs l ks = true) : ∀ x ∈ Tm.vals s tb env ks, 0 ≤ x ∧ x < (s : Int) := fun x hx => by
  obtain ⟨k, hk, rfl⟩ := List.mem_iff_getElem.1 hx
  rw [vals_length] at hk
  rw [vals_at _ _ _ _ _ hk]
  have ho2 := overs_at ho hk
  have := val_range h he ks[k] false ho2 (by
    cases hc : ks[k] with
    | mk g us =>
      rw [hc] at ho2
      simp only [Tm.f]
      by_cases hg : g < 0
      · omega
      · obtain ⟨h5, -⟩ := over_parts ho2 hg; omega)
  exact ⟨this.1, this.2.1 rfl⟩
theorem val_fun {s : Nat} {tb : List (List Int)} {env : Int → Int} {f : Int} {ks : List Tm} (hf : ¬ f < 0) {p : Nat} (h1 : f.toNat < tb.length) (h2 : p < tb[f.toNat].length) (hp : placeAt s (Tm.vals s tb env ks) = p) : Tm.val s tb env (.mk f ks) = tb[f.toNat][p] := by
  simp only [Tm.val]
  rw [if_neg hf, hp, Int.toNat_natCast]
  simp [List.getD, List.getElem?_eq_getElem h1, List.getElem?_eq_getElem h2]

end Go.Proofs.Ytapoedcmhdlpfaa
namespace Go.Proofs.Ytapoedcmhdlpfaa
open Go.ChangeShapes Go.WideShapes Go.ChangeAt Go.RowKit
set_option maxHeartbeats 1000000 in
theorem refSmall_any (t : Tm) (w : World) (x s : Value) (ht : IsTm w x s t) (hs : t.size ≤ 2097152) :
    Calls Try.prog 50 #[.agg #[x, s], .int .i64 48] w fun e w' => e = .returned (.bool (t.small 48)) ∧ Ext w w' := by
  have ht0 := ht
  obtain ⟨a, c, rfl, rfl, -, -, -, -⟩ := ht.form
  obtain ⟨c0, c1⟩ := cells2 w (.int .i64 t.f) (.slice a t.ks.length c) 30
  have hx0 := ext_alloc w (.cells #[.int .i64 t.f, .slice a t.ks.length c] 30)
  have Hc := Lib.hid (And.intro c0 c1)
  have Hx0 := Lib.hid hx0; clear hx0
  have Ht := Lib.hid ht0; clear ht0 ht
  have hA : (t.size : Int) ≤ 2097152 := by omega
  have hdep := depth_le_size t
  go_enter Try.func50, Try.ntmps50
  go_wp2_with (first
    | (go_at_call 5; refine (refSize_any t _ _ _ (Ht.out.ext Hx0.out) hs).mono ?_; rintro e w1 ⟨rfl, hx1⟩; replace c0 := hx1.cell c0; replace c1 := hx1.cell c1)
    | (go_at_call 73; refine (refDepth_any t _ _ _ (Ht.out.ext (Ext.trans Hx0.out hx1)) hs).mono ?_; rintro e w2 ⟨rfl, hx2⟩; replace c0 := hx2.cell c0; replace c1 := hx2.cell c1)
    | (go_at_call 74; refine (low_any 48 (by omega) (by omega) t _ _ _ (Ht.out.ext (Ext.trans Hx0.out (Ext.trans hx1 hx2))) hs).mono ?_; rintro e w3 ⟨rfl, hx3⟩))
  · have q1 : (t.size : Int) ≤ 300 := by assumption
    have q2 : (t.depth : Int) ≤ 30 := by assumption
    have r1 : t.size ≤ 300 := by omega
    have r2 : t.depth ≤ 30 := by omega
    go_ret
    exact ⟨ret_bool (by simp [Tm.small, r1, r2]), Ext.trans Hx0.out (Ext.trans hx1 (Ext.trans hx2 hx3))⟩
  · have q2 : (30 : Int) < t.depth := by assumption
    have r2 : ¬ t.depth ≤ 30 := by omega
    go_ret
    exact ⟨ret_bool (by simp [Tm.small, r2]), Ext.trans Hx0.out (Ext.trans hx1 hx2)⟩
  · have q1 : (300 : Int) < t.size := by assumption
    have r1 : ¬ t.size ≤ 300 := by omega
    go_ret
    exact ⟨ret_bool (by simp [Tm.small, r1]), Ext.trans Hx0.out hx1⟩

theorem overs_take {l : List Sy} {ks : List Tm} {k : Nat} (h : k < ks.length) : Tm.overs l (ks.take (k+1)) = (Tm.overs l (ks.take k) && ks[k].over l false) := by
  induction ks generalizing k with
  | nil => simp at h
  | cons t ts ih =>
    cases k with
    | zero => simp [Tm.overs]
    | succ k => simp only [List.take_succ_cons, Tm.overs, List.getElem_cons_succ]; rw [ih (by simpa using h), Bool.and_assoc]
theorem overs_false {l : List Sy} {ks : List Tm} {k : Nat} (h : Tm.overs l (ks.take k) = false) : Tm.overs l ks = false := by
  induction ks generalizing k with
  | nil => simp [Tm.overs] at h
  | cons t ts ih =>
    cases k with
    | zero => simp [Tm.overs] at h
    | succ k =>
      simp only [List.take_succ_cons, Tm.overs, Bool.and_eq_false_iff] at h ⊢
      exact h.imp id (fun h => ih h)

set_option maxHeartbeats 1000000 in
set_option maxRecDepth 100000 in
theorem refOver_any (l : List Sy) (_hl : l.length ≤ 1048576) (t : Tm) : ∀ (top : Bool) (w : World) (a : Option Addr) (c : Nat) (x s : Value), IsSyms w a l → IsTm w x s t → t.size ≤ 2097152 →
    Calls Try.prog 51 #[.agg #[.slice a l.length c], .agg #[x, s], .bool top] w fun e w' => e = .returned (.bool (t.over l top)) ∧ Ext w w' := by
  induction t using Tm.ind with
  | h f ks ih =>
    intro top w a c x s hsy ht hs
    simp only [IsTm] at ht
    obtain ⟨rfl, hf1, hf2, a', c', rfl, hc, hk⟩ := ht
    simp only [Tm.size] at hs
    have hkl := length_le_sizes ks
    have Hih := Lib.hid ih; clear ih
    by_cases hf : f < 0
    · have Hspec := Lib.hid (show Tm.over l top (.mk f ks) = true by simp [Tm.over, okAt, Tm.f, hf])
      go_enter Try.func51, Try.ntmps51
      go_wp2_with fail
      go_ret
      exact ⟨ret_bool Hspec.out.symm, by go_grown⟩
    obtain ⟨i, rfl⟩ : ∃ i : Nat, f = i := ⟨f.toNat, by omega⟩
    have gt : decide ((i : Int) < 0) = false := decide_eq_false hf
    have hok : okAt l top (.mk i ks) = match l[i]? with
      | none => false
      | some s => (s.arity == (ks.length : Int)) && (top || !s.pred) := by
      unfold okAt; rw [if_neg (by simp [Tm.f])]; rfl
    by_cases hil : l.length ≤ i
    · have Hspec := Lib.hid (show Tm.over l top (.mk i ks) = false by simp only [Tm.over]; rw [hok, List.getElem?_eq_none hil]; rfl)
      clear hok
      go_enter Try.func51, Try.ntmps51
      go_wp2_with fail
      go_ret
      exact ⟨ret_bool Hspec.out.symm, by go_grown⟩
    have hil2 : i < l.length := by omega
    rw [List.getElem?_eq_getElem hil2] at hok
    obtain ⟨b2, o2, rfl, hok2, g0, g1, g2⟩ := hsy.look hil2
    have hil3 : (i : Int) < l.length := by omega
    generalize hq : l[i] = q at hok hok2 g0 g1 g2
    clear hq
    obtain ⟨n, ar, p⟩ := q
    have Hok := Lib.hid hok; clear hok
    have Hf := Lib.hid hf; clear hf
    obtain ⟨W, hW⟩ : ∃ W, W = ((w.alloc (.cells #[.slice (some ⟨b2, o2, none⟩) l.length c] 24)).alloc (.cells #[.int .i64 i, .slice a' ks.length c'] 30)) := ⟨_, rfl⟩
    have hx : Ext w W := by subst hW; go_grown
    have g0' := hx.cell g0
    have g1' := hx.cell g1
    have g2' := hx.cell g2
    subst hW
    have Hx := Lib.hid hx; clear hx
    clear g0 g1 g2
    by_cases hbad : (ar != (ks.length : Int)) = true ∨ (p = true ∧ top = false)
    · have hres : Tm.over l top (.mk i ks) = false := by
        simp only [Tm.over]; rw [Hok.out]
        rcases hbad with h | ⟨h1, h2⟩
        · rw [bne, Bool.not_eq_true'] at h; simp [h]
        · simp [h1, h2]
      have Hres := Lib.hid hres; clear hres
      by_cases h1 : (ar != (ks.length : Int)) = true
      · go_enter Try.func51, Try.ntmps51
        go_wp2_with fail
        go_ret
        exact ⟨ret_bool Hres.out.symm, Ext.trans Hx.out (by go_grown)⟩
      · obtain ⟨rfl, rfl⟩ := hbad.resolve_left h1
        have h1' : (ar != (ks.length : Int)) = false := by simpa using h1
        clear h1 hbad
        go_enter Try.func51, Try.ntmps51
        go_wp2_with fail
        go_ret
        exact ⟨ret_bool Hres.out.symm, Ext.trans Hx.out (by go_grown)⟩
    have h1 : (ar != (ks.length : Int)) = false := by
      cases h : (ar != (ks.length : Int)) with
      | false => rfl
      | true => exact absurd (.inl h) hbad
    have hpt : p = false ∨ top = true := by
      cases p <;> cases top <;> simp at hbad ⊢
    have hres : Tm.over l top (.mk i ks) = Tm.overs l ks := by
      simp only [Tm.over]; rw [Hok.out]
      have : (ar == (ks.length : Int)) = true := by rw [bne] at h1; simpa using h1
      simp only [this, Bool.true_and]
      have e : decide ((i : Int) < 0) = false := gt
      rw [e]
      rcases hpt with h | h <;> simp [h]
    have Hres := Lib.hid hres; clear hres hbad
    have hpt2 : p = false ∨ (p = true ∧ top = true) := by
      cases p with
      | false => exact .inl rfl
      | true => rcases hpt with h | h; cases h; exact .inr ⟨rfl, h⟩
    clear hpt
    have Hgt := Lib.hid gt; clear gt
    rcases hpt2 with rfl | ⟨rfl, rfl⟩
    all_goals
      have gt := Hgt.out
      go_enter Try.func51, Try.ntmps51
      go_wp2_with fail
      go_loopw [8] (fun i wr => ∃ k : Nat, k ≤ ks.length ∧ i = .int .i64 k ∧ Tm.overs l (ks.take k) = true ∧ Ext w wr ∧ wr.cell? ⟨w.heap.size, 0, none⟩ = some (.slice (some ⟨b2, o2, none⟩) l.length c) ∧ wr.cell? ⟨w.heap.size + 1, 1, none⟩ = some (.slice a' ks.length c')) (fun i _ => ks.length - (intOf i).toNat)
      case atStart => exact ⟨0, Nat.zero_le _, rfl, rfl, Ext.trans Hx.out (by go_grown), by go_simp, by go_simp⟩
      case round =>
        obtain ⟨k, hkk, rfl, hall, hext, d0, d1⟩ := hrel
        have Hall := Lib.hid hall; clear hall
        clear g0' g1' g2'
        by_cases hlt : k < ks.length
        · have hm := Hih.out _ (List.getElem_mem hlt)
          have hke := hk.ext hext
          obtain ⟨b, o, a2, c2, rfl, h1', h2, h3⟩ := hke.look hlt
          have hst := overs_take (l := l) hlt
          have hp2 : Tm.size ks[k] ≤ 2097152 := by have := size_le_sizes hlt; omega
          have Hst := Lib.hid hst; clear hst
          have hk1 : (k : Int) < ks.length := by omega
          have hk0 : (0 : Int) ≤ (k : Int) := by omega
          have hsy' := hsy.ext hext
          have Hm := Lib.hid hm; clear hm
          go_wp2_with fail
          go_region_held3 (fun w' => w'.cell? ⟨w.heap.size, 0, none⟩ = some (.slice (some ⟨b2, o2, none⟩) l.length c) ∧ w'.cell? ⟨w.heap.size + 1, 1, none⟩ = some (.slice (some ⟨b, o, none⟩) ks.length c') ∧ w'.cell? ⟨b, o + k * 2, none⟩ = some (.int .i64 ks[k].f) ∧ w'.cell? ⟨b, o + k * 2 + 1, none⟩ = some (.slice a2 ks[k].ks.length c2) ∧ Ext wr w')
            (((try go_split_ands); refine ⟨?_, ?_, ?_, ?_, ?_⟩ <;> first | (with_reducible assumption) | exact Below.drew (Below.refl _ _) | exact Ext.drew (by assumption) | exact Ext.drew (ext_alloc _ _) | (apply Ext.cell hw'; (with_reducible assumption)) | exact Ext.trans (by assumption) hw' | exact Ext.frozen hw' (by (with_reducible assumption)) (by (with_reducible assumption)) | (go_keep; done)))
            ((go_at_call 51; go_split_ands; refine (Hm.out false _ _ c _ _ (hsy'.ext (by assumption)) (h3.ext (by assumption)) hp2).mono ?_; rintro e w' ⟨rfl, hw'⟩))
          go_split_ands
          go_wp2_with fail
          · have hf : ks[k].over l false = false := by simpa using ‹(!ks[k].over l false) = true›
            go_ret
            have h := Hst.out
            rw [hf, Bool.and_false] at h
            exact ⟨ret_bool (by rw [Hres.out, overs_false h]), Ext.trans hext (by assumption)⟩
          · have hf : ks[k].over l false = true := by simpa using ‹(!ks[k].over l false) = false›
            go_roundw
            case rel => exact ⟨k + 1, by omega, by go_num, by rw [Hst.out, Hall.out, hf]; rfl, Ext.trans hext (by assumption), by assumption, by assumption⟩
            case measure => simp [intOf]; omega
        · go_wp2_with fail
          have : k = ks.length := by omega
          subst this
          go_ret
          have h := Hall.out
          rw [List.take_length] at h
          exact ⟨ret_bool (by rw [Hres.out, h]), hext⟩

set_option maxHeartbeats 1000000 in
theorem refTermCheck_any (l : List Sy) (hl : l.length ≤ 1048576) (t : Tm) (hs : t.size ≤ 2097152) (w : World) (a : Option Addr) (c : Nat) (hsy : IsSyms w a l) (x s : Value) (ht : IsTm w x s t) :
    Calls Try.prog 20 #[.agg #[.slice a l.length c], .agg #[x, s]] w fun e w' => e = .returned (.int .i64 (termCheck l t)) ∧ Ext w w' := by
  have ht0 := ht
  obtain ⟨a', c', rfl, rfl, -, -, -, -⟩ := ht.form
  obtain ⟨W, hW⟩ : ∃ W, W = ((w.alloc (.cells #[.slice a l.length c] 24)).alloc (.cells #[.int .i64 t.f, .slice a' t.ks.length c'] 30)) := ⟨_, rfl⟩
  have hx : Ext w W := by subst hW; go_grown
  have k0 : W.cell? ⟨w.heap.size, 0, none⟩ = some (.slice a l.length c) := by subst hW; go_simp
  have k1 : W.cell? ⟨w.heap.size + 1, 0, none⟩ = some (.int .i64 t.f) := by subst hW; go_simp
  have k2 : W.cell? ⟨w.heap.size + 1, 1, none⟩ = some (.slice a' t.ks.length c') := by subst hW; go_simp
  subst hW
  have Hx := Lib.hid hx; clear hx
  have Hall : ∀ w1, Ext w w1 → IsSyms w1 a l ∧ IsTm w1 (.int .i64 t.f) (.slice a' t.ks.length c') t := fun w1 h1 => ⟨hsy.ext h1, ht0.ext h1⟩
  have Hall := Lib.hid Hall
  clear ht ht0 hsy
  cases hz : (sigCheck l != 0) with
  | true =>
    have Hres := Lib.hid (show termCheck l t = 2 by unfold termCheck; rw [if_neg (by intro h; simp [h.1] at hz)])
    go_enter Try.func20, Try.ntmps20
    go_wp2_with (go_at_call 34; refine (refSigCheck_any l hl _ a c (Hall.out _ Hx.out).1).mono ?_; rintro e w1 ⟨rfl, hx1⟩)
    go_ret
    exact ⟨ret_int Hres.out.symm, Ext.trans Hx.out hx1⟩
  | false =>
    have hz0 : sigCheck l = 0 := by simpa using hz
    have Hz0 := Lib.hid hz0; clear hz0
    cases hs48 : t.small 48 with
    | false =>
      have Hres := Lib.hid (show termCheck l t = 2 by unfold termCheck; rw [if_neg (by intro h; rw [hs48] at h; simp at h)])
      go_enter Try.func20, Try.ntmps20
      go_wp2_with (first
        | (go_at_call 34; refine (refSigCheck_any l hl _ a c (Hall.out _ Hx.out).1).mono ?_; rintro e w1 ⟨rfl, hx1⟩; replace k0 := hx1.cell k0; replace k1 := hx1.cell k1; replace k2 := hx1.cell k2)
        | (go_at_call 50; refine (refSmall_any t _ _ _ (Hall.out _ (Ext.trans Hx.out hx1)).2 hs).mono ?_; rintro e w2 ⟨rfl, hx2⟩; replace k0 := hx2.cell k0; replace k1 := hx2.cell k1; replace k2 := hx2.cell k2))
      go_ret
      exact ⟨ret_int Hres.out.symm, Ext.trans Hx.out (Ext.trans hx1 hx2)⟩
    | true =>
      have hres : termCheck l t = if t.over l true then 0 else 2 := by
        unfold termCheck; rw [Hz0.out, hs48]; cases t.over l true <;> simp
      have Hres := Lib.hid hres; clear hres
      go_enter Try.func20, Try.ntmps20
      go_wp2_with (first
        | (go_at_call 34; refine (refSigCheck_any l hl _ a c (Hall.out _ Hx.out).1).mono ?_; rintro e w1 ⟨rfl, hx1⟩; replace k0 := hx1.cell k0; replace k1 := hx1.cell k1; replace k2 := hx1.cell k2)
        | (go_at_call 50; refine (refSmall_any t _ _ _ (Hall.out _ (Ext.trans Hx.out hx1)).2 hs).mono ?_; rintro e w2 ⟨rfl, hx2⟩; replace k0 := hx2.cell k0; replace k1 := hx2.cell k1; replace k2 := hx2.cell k2)
        | (go_at_call 51; refine (refOver_any l hl t true _ a c _ _ (Hall.out _ (Ext.trans Hx.out (Ext.trans hx1 hx2))).1 (Hall.out _ (Ext.trans Hx.out (Ext.trans hx1 hx2))).2 hs).mono ?_; rintro e w3 ⟨rfl, hx3⟩))
      · have hb : t.over l true = false := by simpa using ‹(!t.over l true) = true›
        go_ret
        exact ⟨ret_int (by rw [Hres.out, hb]; rfl), Ext.trans Hx.out (Ext.trans hx1 (Ext.trans hx2 hx3))⟩
      · have hb : t.over l true = true := by simpa using ‹(!t.over l true) = false›
        go_ret
        exact ⟨ret_int (by rw [Hres.out, hb]; rfl), Ext.trans Hx.out (Ext.trans hx1 (Ext.trans hx2 hx3))⟩
end Go.Proofs.Ytapoedcmhdlpfaa
namespace Go.Proofs.Ytapoedcmhdlpfaa
open Go.ChangeShapes Go.WideShapes Go.ChangeAt Go.RowKit
structure Lt where
  neg : Bool
  l : Tm
  r : Tm
def Lt.sized (x : Lt) : Prop := x.l.size ≤ 2097152 ∧ x.r.size ≤ 2097152

/-- from an address on stand the cells of literals -/
def IsLits (w : World) (a : Option Addr) (c : List Lt) : Prop :=
  ∀ i (h : i < c.length), ∃ b o la lc ra rc, a = some ⟨b, o, none⟩ ∧ w.cell? ⟨b, o + i * 5, none⟩ = some (.bool c[i].neg) ∧
    w.cell? ⟨b, o + i * 5 + 1, none⟩ = some (.int .i64 c[i].l.f) ∧ w.cell? ⟨b, o + i * 5 + 2, none⟩ = some (.slice la c[i].l.ks.length lc) ∧
    w.cell? ⟨b, o + i * 5 + 3, none⟩ = some (.int .i64 c[i].r.f) ∧ w.cell? ⟨b, o + i * 5 + 4, none⟩ = some (.slice ra c[i].r.ks.length rc) ∧
    IsTm w (.int .i64 c[i].l.f) (.slice la c[i].l.ks.length lc) c[i].l ∧ IsTm w (.int .i64 c[i].r.f) (.slice ra c[i].r.ks.length rc) c[i].r
theorem IsLits.ext {w w' : World} {a : Option Addr} {c : List Lt} (h : IsLits w a c) (hx : Ext w w') : IsLits w' a c := fun i hi => by
  obtain ⟨b, o, la, lc, ra, rc, h1, h2, h3, h4, h5, h6, h7, h8⟩ := h i hi
  exact ⟨b, o, la, lc, ra, rc, h1, hx.cell h2, hx.cell h3, hx.cell h4, hx.cell h5, hx.cell h6, h7.ext hx, h8.ext hx⟩

def Tm.isTrue (t : Tm) : Bool := (t.f == 0) && decide (t.ks.length = 0)
theorem int_len (n : Nat) : ((n : Int) == 0) = decide (n = 0) := by rw [Bool.eq_iff_iff]; simp

set_option maxHeartbeats 400000 in
theorem clTrue_any (t : Tm) (w : World) (x s : Value) (ht : IsTm w x s t) :
    Calls Try.prog 54 #[.agg #[x, s]] w fun e w' => e = .returned (.bool t.isTrue) ∧ Ext w w' := by
  obtain ⟨a, c, rfl, rfl, -, -, -, -⟩ := ht.form
  have hx := ext_alloc w (.cells #[.int .i64 t.f, .slice a t.ks.length c] 30)
  have Hx := Lib.hid hx; clear hx
  unfold Tm.isTrue
  rw [← int_len]
  cases h0 : (t.f == 0)
  all_goals
    go_enter Try.func54, Try.ntmps54
    go_wp2_with fail
    go_ret
    exact ⟨by simp, Hx.out⟩
set_option maxHeartbeats 400000 in
theorem refTrue_any (t : Tm) (w : World) (x s : Value) (ht : IsTm w x s t) :
    Calls Try.prog 57 #[.agg #[x, s]] w fun e w' => e = .returned (.bool t.isTrue) ∧ Ext w w' := by
  obtain ⟨a, c, rfl, rfl, -, -, -, -⟩ := ht.form
  have hx := ext_alloc w (.cells #[.int .i64 t.f, .slice a t.ks.length c] 30)
  have Hx := Lib.hid hx; clear hx
  unfold Tm.isTrue
  rw [← int_len]
  cases h0 : (t.f == 0)
  all_goals
    go_enter Try.func57, Try.ntmps57
    go_wp2_with fail
    go_ret
    exact ⟨by simp, Hx.out⟩

/-- does a predicate stand on top? -/
def predOf (l : List Sy) (t : Tm) : Bool := if t.f < 0 then false else match l[t.f.toNat]? with
  | none => false
  | some s => s.pred

set_option maxHeartbeats 400000 in
set_option maxRecDepth 100000 in
theorem clPred_any (l : List Sy) (_hl : l.length ≤ 1048576) (t : Tm) (hf : t.f < (l.length : Int)) (w : World) (bs : Nat) (a : Option Addr) (c : Nat) (hs : w.cell? ⟨bs, 0, none⟩ = some (.slice a l.length c)) (hsy : IsSyms w a l) (x s : Value) (ht : IsTm w x s t) :
    Calls Try.prog 53 #[.agg #[x, s], .pointer (some ⟨bs, 0, none⟩)] w fun e w' => e = .returned (.bool (predOf l t)) ∧ Ext w w' := by
  obtain ⟨a', c', rfl, rfl, hf1, hf2, -, -⟩ := ht.form
  have hx := ext_alloc w (.cells #[.int .i64 t.f, .slice a' t.ks.length c'] 30)
  have hs' := hx.cell hs
  have hsy' := hsy.ext hx
  have Hx := Lib.hid hx; clear hx
  unfold predOf
  by_cases h0 : t.f < 0
  · rw [if_pos h0]
    go_enter Try.func53, Try.ntmps53
    go_wp2_with fail
    go_ret
    exact ⟨by simp, Hx.out⟩
  · rw [if_neg h0]
    obtain ⟨i, hi⟩ : ∃ i : Nat, t.f = i := ⟨t.f.toNat, by omega⟩
    rw [hi] at hs' Hx hf ⊢
    have hil : i < l.length := by omega
    obtain ⟨b2, o2, rfl, hok2, g0, g1, g2⟩ := hsy'.look hil
    have hil' : (i : Int) < l.length := by omega
    rw [Int.toNat_natCast, List.getElem?_eq_getElem hil]
    rw [hi] at g0 g1 g2
    have hge : (0 : Int) ≤ (i : Int) := by omega
    clear hsy hsy' hs h0 ht
    go_enter Try.func53, Try.ntmps53
    go_wp2_with fail
    go_ret
    exact ⟨by simp, Hx.out⟩
end Go.Proofs.Ytapoedcmhdlpfaa
namespace Go.Proofs.Ytapoedcmhdlpfaa
open Go.ChangeShapes Go.WideShapes Go.ChangeAt Go.RowKit
def litOk (l : List Sy) (x : Lt) : Bool :=
  decide (termCheck l x.l = 0) && (decide (termCheck l x.r = 0) && ((predOf l x.l == predOf l x.r) && !(predOf l x.l && (x.l.isTrue || !x.r.isTrue))))
def clauseCheck (l : List Sy) (c : List Lt) : Int := if sigCheck l = 0 ∧ c.length ≤ 16 ∧ c.all (litOk l) = true then 0 else 2
theorem clauseCheck_bad {l : List Sy} {c : List Lt} {k : Nat} (hk : k < c.length) (h : litOk l c[k] = false) : clauseCheck l c = 2 := by
  unfold clauseCheck
  rw [if_neg]
  rintro ⟨-, -, h3⟩
  rw [List.all_eq_true] at h3
  rw [h3 _ (List.getElem_mem hk)] at h; cases h
theorem clauseCheck_good {l : List Sy} {c : List Lt} (h1 : sigCheck l = 0) (h2 : c.length ≤ 16) (h : (c.take c.length).all (litOk l) = true) : clauseCheck l c = 0 := by
  unfold clauseCheck
  rw [List.take_length] at h
  rw [if_pos ⟨h1, h2, h⟩]
theorem all_step {l : List Sy} {c : List Lt} {k : Nat} (hk : k < c.length) (h1 : (c.take k).all (litOk l) = true) (h2 : litOk l c[k] = true) : (c.take (k + 1)).all (litOk l) = true := by
  rw [List.take_succ_eq_append_getElem hk, List.all_append, h1]; simp [h2]
theorem over_lt {l : List Sy} {t : Tm} (h : t.over l true = true) : t.f < (l.length : Int) := by
  cases t with
  | mk f ks =>
    simp only [Tm.over, Bool.and_eq_true] at h
    have h := h.1
    simp only [Tm.f]
    by_cases hf : f < 0
    · omega
    · have e : okAt l true (.mk f ks) = (match l[f.toNat]? with
        | none => false
        | some s => (s.arity == (ks.length : Int)) && (true || !s.pred)) := by unfold okAt; rw [if_neg (by simpa [Tm.f] using hf)]; rfl
      rw [e] at h
      rcases Nat.lt_or_ge f.toNat l.length with h1 | h1
      · omega
      · rw [List.getElem?_eq_none h1] at h; cases h
theorem checked_lt {l : List Sy} {t : Tm} (h : termCheck l t = 0) : t.f < (l.length : Int) := by
  unfold termCheck at h
  split at h
  · rename_i h1; exact over_lt h1.2.2
  · cases h
theorem checkCases (l : List Sy) (t : Tm) : termCheck l t = 0 ∨ termCheck l t = 2 := by unfold termCheck; split <;> simp
/-- a literal's five cells in a new block -/
theorem cells5 (w : World) (p q r s u : Value) (t : TypeId) : (w.alloc (.cells #[p, q, r, s, u] t)).cell? ⟨w.heap.size, 0, none⟩ = some p ∧ (w.alloc (.cells #[p, q, r, s, u] t)).cell? ⟨w.heap.size, 1, none⟩ = some q ∧ (w.alloc (.cells #[p, q, r, s, u] t)).cell? ⟨w.heap.size, 2, none⟩ = some r ∧ (w.alloc (.cells #[p, q, r, s, u] t)).cell? ⟨w.heap.size, 3, none⟩ = some s ∧ (w.alloc (.cells #[p, q, r, s, u] t)).cell? ⟨w.heap.size, 4, none⟩ = some u := by
  refine ⟨?_, ?_, ?_, ?_, ?_⟩ <;> go_simp

set_option maxHeartbeats 8000000 in
set_option maxRecDepth 100000 in
theorem clCheck_any (l : List Sy) (hl : l.length ≤ 1048576) (c : List Lt) (hcs : ∀ x ∈ c, x.sized) (hcl : c.length ≤ 1048576) (w : World) (a : Option Addr) (n : Nat) (hln : l.length ≤ n) (hn63 : n ≤ 9223372036854775807) (hsy : IsSyms w a l) (ca : Option Addr) (cn : Nat) (hc : IsLits w ca c) :
    Calls Try.prog 23 #[.agg #[.slice a l.length n], .slice ca c.length cn] w fun e w' => e = .returned (.int .i64 (clauseCheck l c)) ∧ Ext w w' := by
  obtain ⟨W, hW⟩ : ∃ W, W = w.alloc (.cells #[.slice a l.length n] 24) := ⟨_, rfl⟩
  have hx : Ext w W := by subst hW; go_grown
  have k0 : W.cell? ⟨w.heap.size, 0, none⟩ = some (.slice a l.length n) := by subst hW; go_simp
  have hS := sigCheck_any l hl W a n hln hn63 (hsy.ext hx)
  obtain ⟨Z, hZ⟩ : ∃ Z, Z = sigCheck l := ⟨_, rfl⟩
  rw [← hZ] at hS
  obtain ⟨R, hR⟩ : ∃ R, R = clauseCheck l c := ⟨_, rfl⟩
  rw [← hR]
  have HS := Lib.hid hS; clear hS
  by_cases hz : Z = 0
  case neg =>
    have hz' : (Z != 0) = true := by simpa using hz
    have hR2 : R = 2 := by rw [hR]; unfold clauseCheck; rw [if_neg]; rintro ⟨h, -⟩; exact hz (hZ.trans h)
    subst hR2
    clear hR hZ hz
    go_enter Try.func23, Try.ntmps23
    go_wp2_with ((rw [← hW]; refine (HS.out).mono ?_); rintro e w1 ⟨rfl, hx1⟩)
    go_ret
    exact ⟨rfl, hx.trans hx1⟩
  subst hz
  by_cases h16 : 16 < c.length
  · have hR2 : R = 2 := by rw [hR]; unfold clauseCheck; rw [if_neg]; rintro ⟨-, h, -⟩; omega
    subst hR2
    have h16i : (16 : Int) < (c.length : Int) := by omega
    clear hR hZ
    go_enter Try.func23, Try.ntmps23
    go_wp2_with ((rw [← hW]; refine (HS.out).mono ?_); rintro e w1 ⟨rfl, hx1⟩)
    go_ret
    exact ⟨rfl, hx.trans hx1⟩
  have h16i : (c.length : Int) ≤ 16 := by omega
  have HZ := Lib.hid hZ.symm
  have HR := Lib.hid hR
  clear hR hZ
  have Hcs := Lib.hid hcs; clear hcs
  go_enter Try.func23, Try.ntmps23
  go_wp2_with ((rw [← hW]; clear hW; refine (HS.out).mono ?_); rintro e w1 ⟨rfl, hx1⟩)
  replace k0 := hx1.cell k0
  replace hx := hx.trans hx1
  clear hx1 HS
  go_loopw [19] (fun i wr => ∃ k : Nat, k ≤ c.length ∧ i = .int .i64 k ∧ (c.take k).all (litOk l) = true ∧ Ext w1 wr) (fun i _ => c.length - (intOf i).toNat)
  case atStart => exact ⟨0, Nat.zero_le _, rfl, rfl, Below.refl _ _⟩
  case round =>
    obtain ⟨k, hkk, rfl, hall, hext⟩ := hrel
    have Hall := Lib.hid hall; clear hall
    have q0 := hext.cell k0
    have hxr := hx.trans hext
    by_cases hlt : k < c.length
    case neg =>
      have hk1 : ¬ (k : Int) < c.length := by omega
      have hke : k = c.length := by omega
      have hR0 : R = 0 := by
        rw [HR.out]
        have h := Hall.out
        rw [hke] at h
        exact clauseCheck_good HZ.out (by omega) h
      subst hR0
      go_wp2_with fail
      go_ret
      exact ⟨rfl, hxr⟩
    have hk1 : (k : Int) < c.length := by omega
    obtain ⟨hsl, hsr⟩ := Hcs.out _ (List.getElem_mem hlt)
    obtain ⟨b, o, la, lc, ra, rc, rfl, h1, h2, h3, h4, h5, hL, hRt⟩ := hc k hlt
    have g1 := hxr.cell h1
    have g2 := hxr.cell h2
    have g3 := hxr.cell h3
    have g4 := hxr.cell h4
    have g5 := hxr.cell h5
    clear h1 h2 h3 h4 h5
    have Hbad := Lib.hid (fun h => HR.out.trans (clauseCheck_bad (l := l) hlt h))
    have Hgood := Lib.hid (all_step (l := l) hlt Hall.out)
    have cL := fun w' (h : Ext w w') => termCheck_any l hl c[k].l hsl w' a n hln hn63 (hsy.ext h) _ _ (hL.ext h)
    have cR := fun w' (h : Ext w w') => termCheck_any l hl c[k].r hsr w' a n hln hn63 (hsy.ext h) _ _ (hRt.ext h)
    have tL := fun w' (h : Ext w w') => clTrue_any c[k].l w' _ _ (hL.ext h)
    have tR := fun w' (h : Ext w w') => clTrue_any c[k].r w' _ _ (hRt.ext h)
    have pL := fun (hz : termCheck l c[k].l = 0) w' (h : Ext w w') (hk : w'.cell? ⟨w.heap.size, 0, none⟩ = some (.slice a l.length n)) => clPred_any l hl c[k].l (checked_lt hz) w' w.heap.size a n hk (hsy.ext h) _ _ (hL.ext h)
    have pR := fun (hz : termCheck l c[k].r = 0) w' (h : Ext w w') (hk : w'.cell? ⟨w.heap.size, 0, none⟩ = some (.slice a l.length n)) => clPred_any l hl c[k].r (checked_lt hz) w' w.heap.size a n hk (hsy.ext h) _ _ (hRt.ext h)
    have hok : litOk l c[k] = (decide (termCheck l c[k].l = 0) && (decide (termCheck l c[k].r = 0) && ((predOf l c[k].l == predOf l c[k].r) && !(predOf l c[k].l && (c[k].l.isTrue || !c[k].r.isTrue))))) := rfl
    have hcaL := checkCases l c[k].l
    have hcaR := checkCases l c[k].r
    generalize litOk l c[k] = OK at Hbad Hgood hok
    generalize termCheck l c[k].l = ZL at cL pL hok hcaL
    generalize termCheck l c[k].r = ZR at cR pR hok hcaR
    generalize predOf l c[k].l = PL at pL hok
    generalize predOf l c[k].r = PR at pR hok
    generalize c[k].l.isTrue = TL at tL hok
    generalize c[k].r.isTrue = TR at tR hok
    generalize c[k].neg = neg at g1
    generalize c[k].l.f = lf at g2 cL tL pL hL
    generalize c[k].r.f = rf at g4 cR tR pR hRt
    generalize c[k].l.ks.length = ll at g3 cL tL pL hL
    generalize c[k].r.ks.length = rl at g5 cR tR pR hRt
    have CL := Lib.hid cL
    have CR := Lib.hid cR
    have TLc := Lib.hid tL
    have TRc := Lib.hid tR
    have PLc := Lib.hid pL
    have PRc := Lib.hid pR
    have Hok := Lib.hid hok
    clear cL cR tL tR pL pR hok hL hRt
    clear hsy hc
    have hA := ext_alloc wr (.cells #[.bool neg, .int .i64 lf, .slice la ll lc, .int .i64 rf, .slice ra rl rc] 49)
    have m := cells5 wr (.bool neg) (.int .i64 lf) (.slice la ll lc) (.int .i64 rf) (.slice ra rl rc) 49
    rcases hcaL with rfl | rfl
    case inr =>
      obtain ⟨m0, m1, m2, m3, m4⟩ := m
      have m5 := hA.cell q0
      have E2 := hxr.trans hA
      go_wp2_with fail
      obtain ⟨W2, hW2⟩ : ∃ W2, W2 = wr.alloc (.cells #[.bool neg, .int .i64 lf, .slice la ll lc, .int .i64 rf, .slice ra rl rc] 49) := ⟨_, rfl⟩
      rw [← hW2] at hA m0 m1 m2 m3 m4 m5 E2 ⊢
      clear hW2
      go_wp2_with (first
        | (go_at_call 17; with_reducible refine (CL.out _ E2).mono ?_; rintro e w3 ⟨rfl, hx3⟩; have d0 := hx3.cell m0; have d1 := hx3.cell m1; have d2 := hx3.cell m2; have d3 := hx3.cell m3; have d4 := hx3.cell m4; have d5 := hx3.cell m5; have E3 := E2.trans hx3))
      go_ret
      exact ⟨ret_int (Hbad.out (by rw [Hok.out]; simp)).symm, E3⟩
    rcases hcaR with rfl | rfl
    case inr =>
      obtain ⟨m0, m1, m2, m3, m4⟩ := m
      have m5 := hA.cell q0
      have E2 := hxr.trans hA
      go_wp2_with fail
      obtain ⟨W2, hW2⟩ : ∃ W2, W2 = wr.alloc (.cells #[.bool neg, .int .i64 lf, .slice la ll lc, .int .i64 rf, .slice ra rl rc] 49) := ⟨_, rfl⟩
      rw [← hW2] at hA m0 m1 m2 m3 m4 m5 E2 ⊢
      clear hW2
      go_wp2_with (first
        | (go_at_call 17; with_reducible refine (CL.out _ E2).mono ?_; rintro e w3 ⟨rfl, hx3⟩; have d0 := hx3.cell m0; have d1 := hx3.cell m1; have d2 := hx3.cell m2; have d3 := hx3.cell m3; have d4 := hx3.cell m4; have d5 := hx3.cell m5; have E3 := E2.trans hx3)
        | (go_at_call 17; with_reducible refine (CR.out _ E3).mono ?_; rintro e w4 ⟨rfl, hx4⟩; have u0 := hx4.cell d0; have u1 := hx4.cell d1; have u2 := hx4.cell d2; have u3 := hx4.cell d3; have u4 := hx4.cell d4; have u5 := hx4.cell d5; have E4 := E3.trans hx4))
      go_ret
      exact ⟨ret_int (Hbad.out (by rw [Hok.out]; simp)).symm, E4⟩
    have PLd := Lib.hid (PLc.out rfl)
    have PRd := Lib.hid (PRc.out rfl)
    clear PLc PRc
    cases PL with
    | false =>
      cases PR with
      | false =>
        obtain ⟨m0, m1, m2, m3, m4⟩ := m
        have m5 := hA.cell q0
        have E2 := hxr.trans hA
        go_wp2_with fail
        obtain ⟨W2, hW2⟩ : ∃ W2, W2 = wr.alloc (.cells #[.bool neg, .int .i64 lf, .slice la ll lc, .int .i64 rf, .slice ra rl rc] 49) := ⟨_, rfl⟩
        rw [← hW2] at hA m0 m1 m2 m3 m4 m5 E2 ⊢
        clear hW2
        go_wp2_with (first
          | (go_at_call 17; with_reducible refine (CL.out _ E2).mono ?_; rintro e w3 ⟨rfl, hx3⟩; have d0 := hx3.cell m0; have d1 := hx3.cell m1; have d2 := hx3.cell m2; have d3 := hx3.cell m3; have d4 := hx3.cell m4; have d5 := hx3.cell m5; have E3 := E2.trans hx3)
          | (go_at_call 17; with_reducible refine (CR.out _ E3).mono ?_; rintro e w4 ⟨rfl, hx4⟩; have u0 := hx4.cell d0; have u1 := hx4.cell d1; have u2 := hx4.cell d2; have u3 := hx4.cell d3; have u4 := hx4.cell d4; have u5 := hx4.cell d5; have E4 := E3.trans hx4))
        have F4 : Ext w1 w4 := hext.trans (hA.trans (hx3.trans hx4))
        go_region_held3 (fun w' => w'.cell? ⟨wr.heap.size, 0, none⟩ = some (.bool neg) ∧ w'.cell? ⟨wr.heap.size, 1, none⟩ = some (.int .i64 lf) ∧ w'.cell? ⟨wr.heap.size, 2, none⟩ = some (.slice la ll lc) ∧ w'.cell? ⟨wr.heap.size, 3, none⟩ = some (.int .i64 rf) ∧ w'.cell? ⟨wr.heap.size, 4, none⟩ = some (.slice ra rl rc) ∧ w'.cell? ⟨w.heap.size, 0, none⟩ = some (.slice a l.length n) ∧ Ext w w' ∧ Ext w1 w')
          (((try go_split_ands); refine ⟨?_, ?_, ?_, ?_, ?_, ?_, ?_, ?_⟩ <;> first | (with_reducible assumption) | exact Below.drew (Below.refl _ _) | exact Ext.drew (by assumption) | exact Ext.drew (ext_alloc _ _) | (apply Ext.cell hw'; (with_reducible assumption)) | exact Ext.trans (by assumption) hw' | exact Ext.frozen hw' (by (with_reducible assumption)) (by (with_reducible assumption)) | (go_keep; done)))
          ((first
            | (go_at_call 53; go_split_ands; with_reducible refine (PLd.out _ (by (with_reducible assumption)) (by (with_reducible assumption))).mono ?_; rintro e w' ⟨rfl, hw'⟩)
            | (go_at_call 53; go_split_ands; with_reducible refine (PRd.out _ (by (with_reducible assumption)) (by (with_reducible assumption))).mono ?_; rintro e w' ⟨rfl, hw'⟩)))
        go_split_ands
        have v0 : w'.cell? ⟨wr.heap.size, 0, none⟩ = some (.bool neg) := by with_reducible assumption
        have v1 : w'.cell? ⟨wr.heap.size, 1, none⟩ = some (.int .i64 lf) := by with_reducible assumption
        have v2 : w'.cell? ⟨wr.heap.size, 2, none⟩ = some (.slice la ll lc) := by with_reducible assumption
        have v3 : w'.cell? ⟨wr.heap.size, 3, none⟩ = some (.int .i64 rf) := by with_reducible assumption
        have v4 : w'.cell? ⟨wr.heap.size, 4, none⟩ = some (.slice ra rl rc) := by with_reducible assumption
        have v5 : w'.cell? ⟨w.heap.size, 0, none⟩ = some (.slice a l.length n) := by with_reducible assumption
        have EV : Ext w w' := by with_reducible assumption
        clear hA hx hext hxr
        have FV : Ext w1 w' := by with_reducible assumption
        go_wp2_with (first
          | (go_at_call 53; with_reducible refine (PLd.out _ EV v5).mono ?_; rintro e w5 ⟨rfl, hx5⟩; have y1 := hx5.cell v1; have y2 := hx5.cell v2; have y3 := hx5.cell v3; have y4 := hx5.cell v4; have E5 := EV.trans hx5))
        go_roundw
        case rel => exact ⟨k + 1, by omega, by go_num, Hgood.out (by rw [Hok.out]; rfl), FV.trans hx5⟩
        case measure => simp [intOf]; omega
      | true =>
        obtain ⟨m0, m1, m2, m3, m4⟩ := m
        have m5 := hA.cell q0
        have E2 := hxr.trans hA
        go_wp2_with fail
        obtain ⟨W2, hW2⟩ : ∃ W2, W2 = wr.alloc (.cells #[.bool neg, .int .i64 lf, .slice la ll lc, .int .i64 rf, .slice ra rl rc] 49) := ⟨_, rfl⟩
        rw [← hW2] at hA m0 m1 m2 m3 m4 m5 E2 ⊢
        clear hW2
        go_wp2_with (first
          | (go_at_call 17; with_reducible refine (CL.out _ E2).mono ?_; rintro e w3 ⟨rfl, hx3⟩; have d0 := hx3.cell m0; have d1 := hx3.cell m1; have d2 := hx3.cell m2; have d3 := hx3.cell m3; have d4 := hx3.cell m4; have d5 := hx3.cell m5; have E3 := E2.trans hx3)
          | (go_at_call 17; with_reducible refine (CR.out _ E3).mono ?_; rintro e w4 ⟨rfl, hx4⟩; have u0 := hx4.cell d0; have u1 := hx4.cell d1; have u2 := hx4.cell d2; have u3 := hx4.cell d3; have u4 := hx4.cell d4; have u5 := hx4.cell d5; have E4 := E3.trans hx4))
        have F4 : Ext w1 w4 := hext.trans (hA.trans (hx3.trans hx4))
        go_region_held3 (fun w' => w'.cell? ⟨wr.heap.size, 0, none⟩ = some (.bool neg) ∧ w'.cell? ⟨wr.heap.size, 1, none⟩ = some (.int .i64 lf) ∧ w'.cell? ⟨wr.heap.size, 2, none⟩ = some (.slice la ll lc) ∧ w'.cell? ⟨wr.heap.size, 3, none⟩ = some (.int .i64 rf) ∧ w'.cell? ⟨wr.heap.size, 4, none⟩ = some (.slice ra rl rc) ∧ w'.cell? ⟨w.heap.size, 0, none⟩ = some (.slice a l.length n) ∧ Ext w w' ∧ Ext w1 w')
          (((try go_split_ands); refine ⟨?_, ?_, ?_, ?_, ?_, ?_, ?_, ?_⟩ <;> first | (with_reducible assumption) | exact Below.drew (Below.refl _ _) | exact Ext.drew (by assumption) | exact Ext.drew (ext_alloc _ _) | (apply Ext.cell hw'; (with_reducible assumption)) | exact Ext.trans (by assumption) hw' | exact Ext.frozen hw' (by (with_reducible assumption)) (by (with_reducible assumption)) | (go_keep; done)))
          ((first
            | (go_at_call 53; go_split_ands; with_reducible refine (PLd.out _ (by (with_reducible assumption)) (by (with_reducible assumption))).mono ?_; rintro e w' ⟨rfl, hw'⟩)
            | (go_at_call 53; go_split_ands; with_reducible refine (PRd.out _ (by (with_reducible assumption)) (by (with_reducible assumption))).mono ?_; rintro e w' ⟨rfl, hw'⟩)))
        go_split_ands
        have v0 : w'.cell? ⟨wr.heap.size, 0, none⟩ = some (.bool neg) := by with_reducible assumption
        have v1 : w'.cell? ⟨wr.heap.size, 1, none⟩ = some (.int .i64 lf) := by with_reducible assumption
        have v2 : w'.cell? ⟨wr.heap.size, 2, none⟩ = some (.slice la ll lc) := by with_reducible assumption
        have v3 : w'.cell? ⟨wr.heap.size, 3, none⟩ = some (.int .i64 rf) := by with_reducible assumption
        have v4 : w'.cell? ⟨wr.heap.size, 4, none⟩ = some (.slice ra rl rc) := by with_reducible assumption
        have v5 : w'.cell? ⟨w.heap.size, 0, none⟩ = some (.slice a l.length n) := by with_reducible assumption
        have EV : Ext w w' := by with_reducible assumption
        clear hA hx hext hxr
        have FV : Ext w1 w' := by with_reducible assumption
        go_wp2_with fail
        go_ret
        exact ⟨ret_int (Hbad.out (by rw [Hok.out]; simp)).symm, EV⟩
    | true =>
      cases PR with
      | false =>
        obtain ⟨m0, m1, m2, m3, m4⟩ := m
        have m5 := hA.cell q0
        have E2 := hxr.trans hA
        go_wp2_with fail
        obtain ⟨W2, hW2⟩ : ∃ W2, W2 = wr.alloc (.cells #[.bool neg, .int .i64 lf, .slice la ll lc, .int .i64 rf, .slice ra rl rc] 49) := ⟨_, rfl⟩
        rw [← hW2] at hA m0 m1 m2 m3 m4 m5 E2 ⊢
        clear hW2
        go_wp2_with (first
          | (go_at_call 17; with_reducible refine (CL.out _ E2).mono ?_; rintro e w3 ⟨rfl, hx3⟩; have d0 := hx3.cell m0; have d1 := hx3.cell m1; have d2 := hx3.cell m2; have d3 := hx3.cell m3; have d4 := hx3.cell m4; have d5 := hx3.cell m5; have E3 := E2.trans hx3)
          | (go_at_call 17; with_reducible refine (CR.out _ E3).mono ?_; rintro e w4 ⟨rfl, hx4⟩; have u0 := hx4.cell d0; have u1 := hx4.cell d1; have u2 := hx4.cell d2; have u3 := hx4.cell d3; have u4 := hx4.cell d4; have u5 := hx4.cell d5; have E4 := E3.trans hx4))
        have F4 : Ext w1 w4 := hext.trans (hA.trans (hx3.trans hx4))
        go_region_held3 (fun w' => w'.cell? ⟨wr.heap.size, 0, none⟩ = some (.bool neg) ∧ w'.cell? ⟨wr.heap.size, 1, none⟩ = some (.int .i64 lf) ∧ w'.cell? ⟨wr.heap.size, 2, none⟩ = some (.slice la ll lc) ∧ w'.cell? ⟨wr.heap.size, 3, none⟩ = some (.int .i64 rf) ∧ w'.cell? ⟨wr.heap.size, 4, none⟩ = some (.slice ra rl rc) ∧ w'.cell? ⟨w.heap.size, 0, none⟩ = some (.slice a l.length n) ∧ Ext w w' ∧ Ext w1 w')
          (((try go_split_ands); refine ⟨?_, ?_, ?_, ?_, ?_, ?_, ?_, ?_⟩ <;> first | (with_reducible assumption) | exact Below.drew (Below.refl _ _) | exact Ext.drew (by assumption) | exact Ext.drew (ext_alloc _ _) | (apply Ext.cell hw'; (with_reducible assumption)) | exact Ext.trans (by assumption) hw' | exact Ext.frozen hw' (by (with_reducible assumption)) (by (with_reducible assumption)) | (go_keep; done)))
          ((first
            | (go_at_call 53; go_split_ands; with_reducible refine (PLd.out _ (by (with_reducible assumption)) (by (with_reducible assumption))).mono ?_; rintro e w' ⟨rfl, hw'⟩)
            | (go_at_call 53; go_split_ands; with_reducible refine (PRd.out _ (by (with_reducible assumption)) (by (with_reducible assumption))).mono ?_; rintro e w' ⟨rfl, hw'⟩)))
        go_split_ands
        have v0 : w'.cell? ⟨wr.heap.size, 0, none⟩ = some (.bool neg) := by with_reducible assumption
        have v1 : w'.cell? ⟨wr.heap.size, 1, none⟩ = some (.int .i64 lf) := by with_reducible assumption
        have v2 : w'.cell? ⟨wr.heap.size, 2, none⟩ = some (.slice la ll lc) := by with_reducible assumption
        have v3 : w'.cell? ⟨wr.heap.size, 3, none⟩ = some (.int .i64 rf) := by with_reducible assumption
        have v4 : w'.cell? ⟨wr.heap.size, 4, none⟩ = some (.slice ra rl rc) := by with_reducible assumption
        have v5 : w'.cell? ⟨w.heap.size, 0, none⟩ = some (.slice a l.length n) := by with_reducible assumption
        have EV : Ext w w' := by with_reducible assumption
        clear hA hx hext hxr
        have FV : Ext w1 w' := by with_reducible assumption
        go_wp2_with fail
        go_ret
        exact ⟨ret_int (Hbad.out (by rw [Hok.out]; simp)).symm, EV⟩
      | true =>
        cases TL with
        | true =>
          obtain ⟨m0, m1, m2, m3, m4⟩ := m
          have m5 := hA.cell q0
          have E2 := hxr.trans hA
          go_wp2_with fail
          obtain ⟨W2, hW2⟩ : ∃ W2, W2 = wr.alloc (.cells #[.bool neg, .int .i64 lf, .slice la ll lc, .int .i64 rf, .slice ra rl rc] 49) := ⟨_, rfl⟩
          rw [← hW2] at hA m0 m1 m2 m3 m4 m5 E2 ⊢
          clear hW2
          go_wp2_with (first
            | (go_at_call 17; with_reducible refine (CL.out _ E2).mono ?_; rintro e w3 ⟨rfl, hx3⟩; have d0 := hx3.cell m0; have d1 := hx3.cell m1; have d2 := hx3.cell m2; have d3 := hx3.cell m3; have d4 := hx3.cell m4; have d5 := hx3.cell m5; have E3 := E2.trans hx3)
            | (go_at_call 17; with_reducible refine (CR.out _ E3).mono ?_; rintro e w4 ⟨rfl, hx4⟩; have u0 := hx4.cell d0; have u1 := hx4.cell d1; have u2 := hx4.cell d2; have u3 := hx4.cell d3; have u4 := hx4.cell d4; have u5 := hx4.cell d5; have E4 := E3.trans hx4))
          have F4 : Ext w1 w4 := hext.trans (hA.trans (hx3.trans hx4))
          go_region_held3 (fun w' => w'.cell? ⟨wr.heap.size, 0, none⟩ = some (.bool neg) ∧ w'.cell? ⟨wr.heap.size, 1, none⟩ = some (.int .i64 lf) ∧ w'.cell? ⟨wr.heap.size, 2, none⟩ = some (.slice la ll lc) ∧ w'.cell? ⟨wr.heap.size, 3, none⟩ = some (.int .i64 rf) ∧ w'.cell? ⟨wr.heap.size, 4, none⟩ = some (.slice ra rl rc) ∧ w'.cell? ⟨w.heap.size, 0, none⟩ = some (.slice a l.length n) ∧ Ext w w' ∧ Ext w1 w')
            (((try go_split_ands); refine ⟨?_, ?_, ?_, ?_, ?_, ?_, ?_, ?_⟩ <;> first | (with_reducible assumption) | exact Below.drew (Below.refl _ _) | exact Ext.drew (by assumption) | exact Ext.drew (ext_alloc _ _) | (apply Ext.cell hw'; (with_reducible assumption)) | exact Ext.trans (by assumption) hw' | exact Ext.frozen hw' (by (with_reducible assumption)) (by (with_reducible assumption)) | (go_keep; done)))
            ((first
              | (go_at_call 53; go_split_ands; with_reducible refine (PLd.out _ (by (with_reducible assumption)) (by (with_reducible assumption))).mono ?_; rintro e w' ⟨rfl, hw'⟩)
              | (go_at_call 53; go_split_ands; with_reducible refine (PRd.out _ (by (with_reducible assumption)) (by (with_reducible assumption))).mono ?_; rintro e w' ⟨rfl, hw'⟩)))
          go_split_ands
          have v0 : w'.cell? ⟨wr.heap.size, 0, none⟩ = some (.bool neg) := by with_reducible assumption
          have v1 : w'.cell? ⟨wr.heap.size, 1, none⟩ = some (.int .i64 lf) := by with_reducible assumption
          have v2 : w'.cell? ⟨wr.heap.size, 2, none⟩ = some (.slice la ll lc) := by with_reducible assumption
          have v3 : w'.cell? ⟨wr.heap.size, 3, none⟩ = some (.int .i64 rf) := by with_reducible assumption
          have v4 : w'.cell? ⟨wr.heap.size, 4, none⟩ = some (.slice ra rl rc) := by with_reducible assumption
          have v5 : w'.cell? ⟨w.heap.size, 0, none⟩ = some (.slice a l.length n) := by with_reducible assumption
          have EV : Ext w w' := by with_reducible assumption
          clear hA hx hext hxr
          have FV : Ext w1 w' := by with_reducible assumption
          go_wp2_with (first
            | (go_at_call 53; with_reducible refine (PLd.out _ EV v5).mono ?_; rintro e w5 ⟨rfl, hx5⟩; have y1 := hx5.cell v1; have y2 := hx5.cell v2; have y3 := hx5.cell v3; have y4 := hx5.cell v4; have E5 := EV.trans hx5)
            | (go_at_call 54; with_reducible refine (TLc.out _ E5).mono ?_; rintro e w6 ⟨rfl, hx6⟩; have z3 := hx6.cell y3; have z4 := hx6.cell y4; have E6 := E5.trans hx6))
          go_ret
          exact ⟨ret_int (Hbad.out (by rw [Hok.out]; simp)).symm, E6⟩
        | false =>
          cases TR with
          | true =>
            obtain ⟨m0, m1, m2, m3, m4⟩ := m
            have m5 := hA.cell q0
            have E2 := hxr.trans hA
            go_wp2_with fail
            obtain ⟨W2, hW2⟩ : ∃ W2, W2 = wr.alloc (.cells #[.bool neg, .int .i64 lf, .slice la ll lc, .int .i64 rf, .slice ra rl rc] 49) := ⟨_, rfl⟩
            rw [← hW2] at hA m0 m1 m2 m3 m4 m5 E2 ⊢
            clear hW2
            go_wp2_with (first
              | (go_at_call 17; with_reducible refine (CL.out _ E2).mono ?_; rintro e w3 ⟨rfl, hx3⟩; have d0 := hx3.cell m0; have d1 := hx3.cell m1; have d2 := hx3.cell m2; have d3 := hx3.cell m3; have d4 := hx3.cell m4; have d5 := hx3.cell m5; have E3 := E2.trans hx3)
              | (go_at_call 17; with_reducible refine (CR.out _ E3).mono ?_; rintro e w4 ⟨rfl, hx4⟩; have u0 := hx4.cell d0; have u1 := hx4.cell d1; have u2 := hx4.cell d2; have u3 := hx4.cell d3; have u4 := hx4.cell d4; have u5 := hx4.cell d5; have E4 := E3.trans hx4))
            have F4 : Ext w1 w4 := hext.trans (hA.trans (hx3.trans hx4))
            go_region_held3 (fun w' => w'.cell? ⟨wr.heap.size, 0, none⟩ = some (.bool neg) ∧ w'.cell? ⟨wr.heap.size, 1, none⟩ = some (.int .i64 lf) ∧ w'.cell? ⟨wr.heap.size, 2, none⟩ = some (.slice la ll lc) ∧ w'.cell? ⟨wr.heap.size, 3, none⟩ = some (.int .i64 rf) ∧ w'.cell? ⟨wr.heap.size, 4, none⟩ = some (.slice ra rl rc) ∧ w'.cell? ⟨w.heap.size, 0, none⟩ = some (.slice a l.length n) ∧ Ext w w' ∧ Ext w1 w')
              (((try go_split_ands); refine ⟨?_, ?_, ?_, ?_, ?_, ?_, ?_, ?_⟩ <;> first | (with_reducible assumption) | exact Below.drew (Below.refl _ _) | exact Ext.drew (by assumption) | exact Ext.drew (ext_alloc _ _) | (apply Ext.cell hw'; (with_reducible assumption)) | exact Ext.trans (by assumption) hw' | exact Ext.frozen hw' (by (with_reducible assumption)) (by (with_reducible assumption)) | (go_keep; done)))
              ((first
                | (go_at_call 53; go_split_ands; with_reducible refine (PLd.out _ (by (with_reducible assumption)) (by (with_reducible assumption))).mono ?_; rintro e w' ⟨rfl, hw'⟩)
                | (go_at_call 53; go_split_ands; with_reducible refine (PRd.out _ (by (with_reducible assumption)) (by (with_reducible assumption))).mono ?_; rintro e w' ⟨rfl, hw'⟩)))
            go_split_ands
            have v0 : w'.cell? ⟨wr.heap.size, 0, none⟩ = some (.bool neg) := by with_reducible assumption
            have v1 : w'.cell? ⟨wr.heap.size, 1, none⟩ = some (.int .i64 lf) := by with_reducible assumption
            have v2 : w'.cell? ⟨wr.heap.size, 2, none⟩ = some (.slice la ll lc) := by with_reducible assumption
            have v3 : w'.cell? ⟨wr.heap.size, 3, none⟩ = some (.int .i64 rf) := by with_reducible assumption
            have v4 : w'.cell? ⟨wr.heap.size, 4, none⟩ = some (.slice ra rl rc) := by with_reducible assumption
            have v5 : w'.cell? ⟨w.heap.size, 0, none⟩ = some (.slice a l.length n) := by with_reducible assumption
            have EV : Ext w w' := by with_reducible assumption
            clear hA hx hext hxr
            have FV : Ext w1 w' := by with_reducible assumption
            go_wp2_with (first
              | (go_at_call 53; with_reducible refine (PLd.out _ EV v5).mono ?_; rintro e w5 ⟨rfl, hx5⟩; have y1 := hx5.cell v1; have y2 := hx5.cell v2; have y3 := hx5.cell v3; have y4 := hx5.cell v4; have E5 := EV.trans hx5)
              | (go_at_call 54; with_reducible refine (TLc.out _ E5).mono ?_; rintro e w6 ⟨rfl, hx6⟩; have z3 := hx6.cell y3; have z4 := hx6.cell y4; have E6 := E5.trans hx6)
              | (go_at_call 54; with_reducible refine (TRc.out _ E6).mono ?_; rintro e w7 ⟨rfl, hx7⟩; have E7 := E6.trans hx7))
            go_roundw
            case rel => exact ⟨k + 1, by omega, by go_num, Hgood.out (by rw [Hok.out]; rfl), FV.trans (hx5.trans (hx6.trans hx7))⟩
            case measure => simp [intOf]; omega
          | false =>
            obtain ⟨m0, m1, m2, m3, m4⟩ := m
            have m5 := hA.cell q0
            have E2 := hxr.trans hA
            go_wp2_with fail
            obtain ⟨W2, hW2⟩ : ∃ W2, W2 = wr.alloc (.cells #[.bool neg, .int .i64 lf, .slice la ll lc, .int .i64 rf, .slice ra rl rc] 49) := ⟨_, rfl⟩
            rw [← hW2] at hA m0 m1 m2 m3 m4 m5 E2 ⊢
            clear hW2
            go_wp2_with (first
              | (go_at_call 17; with_reducible refine (CL.out _ E2).mono ?_; rintro e w3 ⟨rfl, hx3⟩; have d0 := hx3.cell m0; have d1 := hx3.cell m1; have d2 := hx3.cell m2; have d3 := hx3.cell m3; have d4 := hx3.cell m4; have d5 := hx3.cell m5; have E3 := E2.trans hx3)
              | (go_at_call 17; with_reducible refine (CR.out _ E3).mono ?_; rintro e w4 ⟨rfl, hx4⟩; have u0 := hx4.cell d0; have u1 := hx4.cell d1; have u2 := hx4.cell d2; have u3 := hx4.cell d3; have u4 := hx4.cell d4; have u5 := hx4.cell d5; have E4 := E3.trans hx4))
            have F4 : Ext w1 w4 := hext.trans (hA.trans (hx3.trans hx4))
            go_region_held3 (fun w' => w'.cell? ⟨wr.heap.size, 0, none⟩ = some (.bool neg) ∧ w'.cell? ⟨wr.heap.size, 1, none⟩ = some (.int .i64 lf) ∧ w'.cell? ⟨wr.heap.size, 2, none⟩ = some (.slice la ll lc) ∧ w'.cell? ⟨wr.heap.size, 3, none⟩ = some (.int .i64 rf) ∧ w'.cell? ⟨wr.heap.size, 4, none⟩ = some (.slice ra rl rc) ∧ w'.cell? ⟨w.heap.size, 0, none⟩ = some (.slice a l.length n) ∧ Ext w w' ∧ Ext w1 w')
              (((try go_split_ands); refine ⟨?_, ?_, ?_, ?_, ?_, ?_, ?_, ?_⟩ <;> first | (with_reducible assumption) | exact Below.drew (Below.refl _ _) | exact Ext.drew (by assumption) | exact Ext.drew (ext_alloc _ _) | (apply Ext.cell hw'; (with_reducible assumption)) | exact Ext.trans (by assumption) hw' | exact Ext.frozen hw' (by (with_reducible assumption)) (by (with_reducible assumption)) | (go_keep; done)))
              ((first
                | (go_at_call 53; go_split_ands; with_reducible refine (PLd.out _ (by (with_reducible assumption)) (by (with_reducible assumption))).mono ?_; rintro e w' ⟨rfl, hw'⟩)
                | (go_at_call 53; go_split_ands; with_reducible refine (PRd.out _ (by (with_reducible assumption)) (by (with_reducible assumption))).mono ?_; rintro e w' ⟨rfl, hw'⟩)))
            go_split_ands
            have v0 : w'.cell? ⟨wr.heap.size, 0, none⟩ = some (.bool neg) := by with_reducible assumption
            have v1 : w'.cell? ⟨wr.heap.size, 1, none⟩ = some (.int .i64 lf) := by with_reducible assumption
            have v2 : w'.cell? ⟨wr.heap.size, 2, none⟩ = some (.slice la ll lc) := by with_reducible assumption
            have v3 : w'.cell? ⟨wr.heap.size, 3, none⟩ = some (.int .i64 rf) := by with_reducible assumption
            have v4 : w'.cell? ⟨wr.heap.size, 4, none⟩ = some (.slice ra rl rc) := by with_reducible assumption
            have v5 : w'.cell? ⟨w.heap.size, 0, none⟩ = some (.slice a l.length n) := by with_reducible assumption
            have EV : Ext w w' := by with_reducible assumption
            clear hA hx hext hxr
            have FV : Ext w1 w' := by with_reducible assumption
            go_wp2_with (first
              | (go_at_call 53; with_reducible refine (PLd.out _ EV v5).mono ?_; rintro e w5 ⟨rfl, hx5⟩; have y1 := hx5.cell v1; have y2 := hx5.cell v2; have y3 := hx5.cell v3; have y4 := hx5.cell v4; have E5 := EV.trans hx5)
              | (go_at_call 54; with_reducible refine (TLc.out _ E5).mono ?_; rintro e w6 ⟨rfl, hx6⟩; have z3 := hx6.cell y3; have z4 := hx6.cell y4; have E6 := E5.trans hx6)
              | (go_at_call 54; with_reducible refine (TRc.out _ E6).mono ?_; rintro e w7 ⟨rfl, hx7⟩; have E7 := E6.trans hx7))
            go_ret
            exact ⟨ret_int (Hbad.out (by rw [Hok.out]; simp)).symm, E7⟩

end Go.Proofs.Ytapoedcmhdlpfaa
namespace Go.Proofs.Ytapoedcmhdlpfaa
open Go.ChangeShapes Go.WideShapes Go.ChangeAt Go.RowKit
theorem pow_mul_le {s : Nat} (_hs : 1 ≤ s) (h3 : s ≤ 3) {k : Nat} (hk : k ≤ 8) : ((s ^ k : Nat) : Int) ≤ 6561 := by
  have := Nat.le_trans (Nat.pow_le_pow_left h3 k) (Nat.pow_le_pow_right (show 1 ≤ 3 by omega) hk)
  have h6 : (3 : Nat) ^ 8 = 6561 := by decide
  omega
theorem pow_wrap {s : Nat} (hs : 1 ≤ s) (h3 : s ≤ 3) {k : Nat} (hk : k ≤ 8) : wrap64 (((s ^ k : Nat) : Int) * (s : Int)) = ((s ^ (k + 1) : Nat) : Int) := by
  have h1 := pow_mul_le hs h3 hk
  have h2 : ((s ^ k : Nat) : Int) * (s : Int) = ((s ^ (k + 1) : Nat) : Int) := by rw [Nat.pow_succ, Int.natCast_mul]
  have h4 : ((s ^ k : Nat) : Int) * (s : Int) ≤ 6561 * 3 := Int.mul_le_mul h1 (by omega) (by omega) (by omega)
  rw [h2] at h4 ⊢
  exact IntWalk.wrap64_in _ (by omega)

set_option maxHeartbeats 1000000 in
theorem rows_any (s n : Nat) (hs : 1 ≤ s) (h3 : s ≤ 3) (hn : n ≤ 8) (w : World) :
    Calls Try.prog 30 #[.int .i64 s, .int .i64 n] w fun e w' => e = .returned (.int .i64 ((s ^ n : Nat) : Int)) ∧ Ext w w' := by
  generalize hM : s ^ n = M
  have HM := Lib.hid hM; clear hM
  go_enter Try.func30, Try.ntmps30
  go_wp2_with fail
  go_loopw [5, 7] (fun x i wr => ∃ k : Nat, k ≤ n ∧ i = .int .i64 k ∧ x = .int .i64 ((s ^ k : Nat) : Int) ∧ Ext w wr) (fun _ i _ => n - (intOf i).toNat)
  case atStart => exact ⟨0, Nat.zero_le _, rfl, by simp, Below.refl _ _⟩
  case round =>
    obtain ⟨k, hk, rfl, rfl, hx⟩ := hrel
    by_cases hlt : k < n
    · have hlt' : (k : Int) < (n : Int) := by omega
      have HP := Lib.hid (pow_wrap hs h3 (k := k) (by omega))
      generalize ((s ^ k : Nat) : Int) = z at HP ⊢
      go_wp2_with fail
      go_roundw
      case rel => exact ⟨k + 1, by omega, by go_num, by rw [HP.out], by first | exact hx | exact hx.drewN _⟩
      case measure => simp [intOf]; omega
    · have hlt' : ¬ (k : Int) < (n : Int) := by omega
      have hkn : k = n := by omega
      have HZ := Lib.hid (show ((s ^ k : Nat) : Int) = (M : Int) by rw [hkn, HM.out])
      generalize ((s ^ k : Nat) : Int) = z at HZ ⊢
      go_wp2_with fail
      go_ret
      exact ⟨ret_int HZ.out, by first | exact hx | exact hx.drewN _⟩
set_option maxHeartbeats 1000000 in
theorem power_any (s n : Nat) (hs : 1 ≤ s) (h3 : s ≤ 3) (hn : n ≤ 8) (w : World) :
    Calls Try.prog 59 #[.int .i64 s, .int .i64 n] w fun e w' => e = .returned (.int .i64 ((s ^ n : Nat) : Int)) ∧ Ext w w' := by
  generalize hM : s ^ n = M
  have HM := Lib.hid hM; clear hM
  go_enter Try.func59, Try.ntmps59
  go_wp2_with fail
  go_loopw [5, 6] (fun x i wr => ∃ k : Nat, k ≤ n ∧ i = .int .i64 k ∧ x = .int .i64 ((s ^ k : Nat) : Int) ∧ Ext w wr) (fun _ i _ => n - (intOf i).toNat)
  case atStart => exact ⟨0, Nat.zero_le _, rfl, by simp, Below.refl _ _⟩
  case round =>
    obtain ⟨k, hk, rfl, rfl, hx⟩ := hrel
    by_cases hlt : k < n
    · have hlt' : (k : Int) < (n : Int) := by omega
      have HP := Lib.hid (pow_wrap hs h3 (k := k) (by omega))
      generalize ((s ^ k : Nat) : Int) = z at HP ⊢
      go_wp2_with fail
      go_roundw
      case rel => exact ⟨k + 1, by omega, by go_num, by rw [HP.out], by first | exact hx | exact hx.drewN _⟩
      case measure => simp [intOf]; omega
    · have hlt' : ¬ (k : Int) < (n : Int) := by omega
      have hkn : k = n := by omega
      have HZ := Lib.hid (show ((s ^ k : Nat) : Int) = (M : Int) by rw [hkn, HM.out])
      generalize ((s ^ k : Nat) : Int) = z at HZ ⊢
      go_wp2_with fail
      go_ret
      exact ⟨ret_int HZ.out, by first | exact hx | exact hx.drewN _⟩
set_option maxHeartbeats 1000000 in
theorem values_any (x : Sy) (sz : Int) (w : World) :
    Calls Try.prog 33 #[.agg #[.string x.name, .int .i64 x.arity, .bool x.pred], .int .i64 sz] w fun e w' => e = .returned (.int .i64 (x.top sz)) ∧ Ext w w' := by
  have hx := ext_alloc w (.cells #[.string x.name, .int .i64 x.arity, .bool x.pred] 63)
  have Hx := Lib.hid hx; clear hx
  unfold Sy.top
  cases hp : x.pred with
  | true =>
    rw [hp] at Hx
    go_enter Try.func33, Try.ntmps33
    go_wp2_with fail
    go_ret
    exact ⟨rfl, by first | exact Hx.out | exact Hx.out.drewN _⟩
  | false =>
    rw [hp] at Hx
    go_enter Try.func33, Try.ntmps33
    go_wp2_with fail
    go_ret
    exact ⟨rfl, by first | exact Hx.out | exact Hx.out.drewN _⟩
theorem place_wrap {s : Nat} (h3 : s ≤ 3) {a x : Int} (h1 : 0 ≤ a ∧ a < 729) (h2 : 0 ≤ x ∧ x < (s : Int)) : wrap64 (wrap64 (a * (s : Int)) + x) = a * s + x := by
  have h4 : a * (s : Int) ≤ 729 * 3 := Int.mul_le_mul (by omega) (by omega) (by omega) (by omega)
  have h5 : 0 ≤ a * (s : Int) := Int.mul_nonneg h1.1 (by omega)
  rw [IntWalk.wrap64_in (a * (s : Int)) (by omega)]
  exact IntWalk.wrap64_in _ (by omega)
theorem place_wrapI {s : Nat} (h3 : s ≤ 3) {a x : Int} (h1 : 0 ≤ a ∧ a < 729) (h2 : 0 ≤ x ∧ x < (s : Int)) : IntKind.i64.wrap (IntKind.i64.wrap (a * (s : Int)) + x) = a * s + x := by
  have h4 : a * (s : Int) ≤ 729 * 3 := Int.mul_le_mul (by omega) (by omega) (by omega) (by omega)
  have h5 : 0 ≤ a * (s : Int) := Int.mul_nonneg h1.1 (by omega)
  rw [IntWalk.i64_in (a * (s : Int)) (by omega)]
  exact IntWalk.i64_in _ (by omega)
set_option maxHeartbeats 1000000 in
theorem place_any (s : Nat) (hs : 1 ≤ s) (h3 : s ≤ 3) (row : List Int) (hl : row.length ≤ 6) (hr : ∀ x ∈ row, 0 ≤ x ∧ x < (s : Int)) (w : World) (a : Option Addr) (c : Nat) (hi : IsInts w a row) :
    Calls Try.prog 49 #[.int .i64 s, .slice a row.length c] w fun e w' => e = .returned (.int .i64 (placeAt s row)) ∧ Ext w w' := by
  go_enter Try.func49, Try.ntmps49
  go_wp2_with fail
  go_loopw [4, 9] (fun x i wr => ∃ k : Nat, k ≤ row.length ∧ i = .int .i64 k ∧ x = .int .i64 (placeAt s (row.take k)) ∧ Ext w wr) (fun _ i _ => row.length - (intOf i).toNat)
  case atStart => exact ⟨0, Nat.zero_le _, rfl, by simp [placeAt], Below.refl _ _⟩
  case round =>
    obtain ⟨k, hk, rfl, rfl, hx⟩ := hrel
    by_cases hlt : k < row.length
    · have hlt' : (k : Int) < (row.length : Int) := by omega
      obtain ⟨-, -, b, o, rfl, g1⟩ := (hi.ext hx) k hlt
      have HP := Lib.hid (place_wrap h3 (placeAt_bound hs h3 hl hr k) (hr _ (List.getElem_mem hlt)))
      have HT := Lib.hid (placeAt_take (sz := (s : Int)) hlt)
      generalize placeAt s (row.take k) = z at HP HT ⊢
      generalize row[k] = y at HP HT g1
      go_wp2_with fail
      go_roundw
      case rel => exact ⟨k + 1, by omega, by go_num, by rw [HT.out]; first | rfl | rw [HP.out] | exact congrArg _ HP.out, by first | exact hx | exact hx.drewN _⟩
      case measure => simp [intOf]; omega
    · have hlt' : ¬ (k : Int) < (row.length : Int) := by omega
      have hkn : k = row.length := by omega
      have HT := Lib.hid (show row.take k = row from List.take_of_length_le (by omega))
      go_wp2_with fail
      go_ret
      exact ⟨by first | rfl | rw [HT.out], by first | exact hx | exact hx.drewN _⟩
end Go.Proofs.Ytapoedcmhdlpfaa
