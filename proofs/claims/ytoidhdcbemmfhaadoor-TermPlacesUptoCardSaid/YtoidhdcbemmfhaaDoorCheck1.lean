/- What term.Check's function answers at each part of a term. -/
import Derived.Test.YtoidhdcbemmfhaaDoorEach
import Derived.Test.YtoidhdcbemmfhaaDoorSign4
import Derived.Test.YtoidhdcbemmfhaaDoorSmall2
namespace Go.Proofs.YtoidhdcbemmfhaaDoor
open Go.ChangeShapes Go.WideShapes Go.ChangeAt Go.RowKit

/-- may a symbol stand there, with so many arguments? -/
def okAt (l : List Sy) (top : Bool) (t : Tm) : Bool :=
  if t.f < 0 then true else match l[t.f.toNat]? with
    | none => false
    | some s => (s.arity == (t.ks.length : Int)) && (top || !s.pred)
def chkSt (l : List Sy) (top : Bool) (t : Tm) : Bool × Bool := (okAt l top t, false)

mutual
def Tm.over (l : List Sy) (top : Bool) : Tm → Bool
  | .mk f ks => okAt l top (.mk f ks) && (decide (f < 0) || Tm.overs l ks)
def Tm.overs (l : List Sy) : List Tm → Bool
  | [] => true
  | t :: ts => Tm.over l false t && Tm.overs l ts
end

theorem each_over (l : List Sy) (m : Int) (t : Tm) : ∀ top, t.low m = true → (t.eachRun (chkSt l) top).1 = t.over l top ∧ (t.eachRun (chkSt l) top).2 = false := by
  refine Tm.rec (motive_1 := fun t => ∀ top, t.low m = true → (t.eachRun (chkSt l) top).1 = t.over l top ∧ (t.eachRun (chkSt l) top).2 = false)
    (motive_2 := fun ks => Tm.lows m ks = true → (Tm.eachRuns (chkSt l) ks false).1 = Tm.overs l ks ∧ (Tm.eachRuns (chkSt l) ks false).2 = false) ?_ ?_ ?_ t
  · intro f ks ih top hl
    simp only [Tm.eachRun, Tm.over]
    have e1 : (chkSt l top (.mk f ks)).1 = okAt l top (.mk f ks) := rfl
    have e2 : (chkSt l top (.mk f ks)).2 = false := rfl
    by_cases ho : (chkSt l top (.mk f ks)).1 = true
    · rw [if_pos ho, ← e1, ho, e2]
      simp only [Bool.true_and]
      simp only [Tm.low] at hl
      by_cases hf : f < 0
      · rw [if_pos hf, Bool.and_eq_true, decide_eq_true_eq, decide_eq_true_eq] at hl
        have : ks = [] := List.eq_nil_of_length_eq_zero hl.2
        subst this
        simp [Tm.eachRuns, hf]
      · rw [if_neg hf] at hl
        have := ih hl
        simp [this, hf]
    · rw [if_neg ho, ← e1, e2]
      simp [ho]
  · intro _; simp [Tm.eachRuns, Tm.overs]
  · intro t ts ih1 ih2 hl
    simp only [Tm.lows, Bool.and_eq_true] at hl
    simp only [Tm.eachRuns, Tm.overs]
    obtain ⟨a1, a2⟩ := ih1 false hl.1
    cases h : (t.eachRun (chkSt l) false).1 with
    | false => rw [← a1, h]; simp [a2]
    | true => rw [← a1, h, if_pos rfl, a2]; simpa using ih2 hl.2

/-- the cell that tells whether the top comes next -/
def ChkI (bt : Nat) (w : World) (top : Bool) : Prop := w.cell? ⟨bt, 0, none⟩ = some (.bool top) ∧ w.frozen? ⟨bt, 0, none⟩ = false

set_option maxHeartbeats 400000 in
set_option maxRecDepth 100000 in
theorem chk_A (w : World) (b o bt bs i n l c cl _b2 _o2 : Nat) (a' : Option Addr) (top : Bool) (_hl : l ≤ 1048576) (_hi63 : (i : Int) ≤ 9223372036854775807) (gx : w.cell? ⟨b, o, none⟩ = some (.int .i64 i)) (_gy : w.cell? ⟨b, o + 1, none⟩ = some (.slice a' n cl)) (a : Option Addr) (gs : w.cell? ⟨bs, 0, none⟩ = some (.slice a l c)) (hb1 : b ≠ bt) (hb2 : bs ≠ bt)
    (hi1 : w.cell? ⟨bt, 0, none⟩ = some (.bool top)) (hi2 : w.frozen? ⟨bt, 0, none⟩ = false) (h1 : decide (i < l) = false) :
    Calls Tryd.prog 55 #[.pointer (some ⟨b, o, none⟩), .pointer (some ⟨bt, 0, none⟩), .pointer (some ⟨bs, 0, none⟩)] w
      fun e w' => e = .returned (.bool false) ∧ Chg [bt] w w' ∧ w'.cell? ⟨bt, 0, none⟩ = some (.bool false) ∧ w'.frozen? ⟨bt, 0, none⟩ = false := by
  go_enter Tryd.func55, Tryd.ntmps55
  go_wp2_with fail
  go_quiet (fail)
  go_wp2_with fail
  go_ret
  exact ⟨rfl, ((Chg.refl _ _).setCell _ (.inl (by simp))).drewN _, World.cell?_setCell_same _ _ _ hi1, (World.frozen?_setCell _ _ _ _).trans hi2⟩

set_option maxHeartbeats 400000 in
set_option maxRecDepth 100000 in
theorem chk_B (w : World) (b o bt bs i n l c cl b2 o2 : Nat) (a' : Option Addr) (top : Bool) (hl : l ≤ 1048576) (hi63 : (i : Int) ≤ 9223372036854775807) (gx : w.cell? ⟨b, o, none⟩ = some (.int .i64 i)) (gy : w.cell? ⟨b, o + 1, none⟩ = some (.slice a' n cl)) (a : Option Addr) (gs : w.cell? ⟨bs, 0, none⟩ = some (.slice a l c)) (hb1 : b ≠ bt) (hb2 : bs ≠ bt)
    (hi1 : w.cell? ⟨bt, 0, none⟩ = some (.bool top)) (hi2 : w.frozen? ⟨bt, 0, none⟩ = false) (ha : a = some ⟨b2, o2, none⟩) (hb3 : b2 ≠ bt) (ar : Int) (p : Bool) (hil : i < l) (hil' : (i : Int) < l) (g1 : w.cell? ⟨b2, o2 + i * 3 + 1, none⟩ = some (.int .i64 ar)) (_g2 : w.cell? ⟨b2, o2 + i * 3 + 2, none⟩ = some (.bool p)) (h2 : (ar == (n : Int)) = false) :
    Calls Tryd.prog 55 #[.pointer (some ⟨b, o, none⟩), .pointer (some ⟨bt, 0, none⟩), .pointer (some ⟨bs, 0, none⟩)] w
      fun e w' => e = .returned (.bool false) ∧ Chg [bt] w w' ∧ w'.cell? ⟨bt, 0, none⟩ = some (.bool false) ∧ w'.frozen? ⟨bt, 0, none⟩ = false := by
  subst ha
  go_enter Tryd.func55, Tryd.ntmps55
  go_wp2_with fail
  go_quiet (fail)
  go_wp2_with fail
  go_ret
  exact ⟨rfl, ((Chg.refl _ _).setCell _ (.inl (by simp))).drewN _, World.cell?_setCell_same _ _ _ hi1, (World.frozen?_setCell _ _ _ _).trans hi2⟩

set_option maxHeartbeats 400000 in
set_option maxRecDepth 100000 in
theorem chk_C (w : World) (b o bt bs i n l c cl b2 o2 : Nat) (a' : Option Addr) (top : Bool) (hl : l ≤ 1048576) (hi63 : (i : Int) ≤ 9223372036854775807) (gx : w.cell? ⟨b, o, none⟩ = some (.int .i64 i)) (gy : w.cell? ⟨b, o + 1, none⟩ = some (.slice a' n cl)) (a : Option Addr) (gs : w.cell? ⟨bs, 0, none⟩ = some (.slice a l c)) (hb1 : b ≠ bt) (hb2 : bs ≠ bt)
    (hi1 : w.cell? ⟨bt, 0, none⟩ = some (.bool top)) (hi2 : w.frozen? ⟨bt, 0, none⟩ = false) (ha : a = some ⟨b2, o2, none⟩) (hb3 : b2 ≠ bt) (ar : Int) (p : Bool) (hil : i < l) (hil' : (i : Int) < l) (g1 : w.cell? ⟨b2, o2 + i * 3 + 1, none⟩ = some (.int .i64 ar)) (_g2 : w.cell? ⟨b2, o2 + i * 3 + 2, none⟩ = some (.bool p)) (h2 : (ar == (n : Int)) = true) (ht : top = true) :
    Calls Tryd.prog 55 #[.pointer (some ⟨b, o, none⟩), .pointer (some ⟨bt, 0, none⟩), .pointer (some ⟨bs, 0, none⟩)] w
      fun e w' => e = .returned (.bool true) ∧ Chg [bt] w w' ∧ w'.cell? ⟨bt, 0, none⟩ = some (.bool false) ∧ w'.frozen? ⟨bt, 0, none⟩ = false := by
  subst ha
  subst ht
  go_enter Tryd.func55, Tryd.ntmps55
  go_wp2_with fail
  go_quiet (fail)
  go_wp2_with fail
  go_ret
  exact ⟨rfl, ((Chg.refl _ _).setCell _ (.inl (by simp))).drewN _, World.cell?_setCell_same _ _ _ hi1, (World.frozen?_setCell _ _ _ _).trans hi2⟩

set_option maxHeartbeats 400000 in
set_option maxRecDepth 100000 in
theorem chk_D (w : World) (b o bt bs i n l c cl b2 o2 : Nat) (a' : Option Addr) (top : Bool) (hl : l ≤ 1048576) (hi63 : (i : Int) ≤ 9223372036854775807) (gx : w.cell? ⟨b, o, none⟩ = some (.int .i64 i)) (gy : w.cell? ⟨b, o + 1, none⟩ = some (.slice a' n cl)) (a : Option Addr) (gs : w.cell? ⟨bs, 0, none⟩ = some (.slice a l c)) (hb1 : b ≠ bt) (hb2 : bs ≠ bt)
    (hi1 : w.cell? ⟨bt, 0, none⟩ = some (.bool top)) (hi2 : w.frozen? ⟨bt, 0, none⟩ = false) (ha : a = some ⟨b2, o2, none⟩) (hb3 : b2 ≠ bt) (ar : Int) (p : Bool) (hil : i < l) (hil' : (i : Int) < l) (g1 : w.cell? ⟨b2, o2 + i * 3 + 1, none⟩ = some (.int .i64 ar)) (g2 : w.cell? ⟨b2, o2 + i * 3 + 2, none⟩ = some (.bool p)) (h2 : (ar == (n : Int)) = true) (ht : top = false) :
    Calls Tryd.prog 55 #[.pointer (some ⟨b, o, none⟩), .pointer (some ⟨bt, 0, none⟩), .pointer (some ⟨bs, 0, none⟩)] w
      fun e w' => e = .returned (.bool (!p)) ∧ Chg [bt] w w' ∧ w'.cell? ⟨bt, 0, none⟩ = some (.bool false) ∧ w'.frozen? ⟨bt, 0, none⟩ = false := by
  subst ha
  subst ht
  go_enter Tryd.func55, Tryd.ntmps55
  go_wp2_with fail
  go_quiet (fail)
  go_wp2_with fail
  go_ret
  exact ⟨rfl, ((Chg.refl _ _).setCell _ (.inl (by simp))).drewN _, World.cell?_setCell_same _ _ _ hi1, (World.frozen?_setCell _ _ _ _).trans hi2⟩

set_option maxHeartbeats 1000000 in
set_option maxRecDepth 100000 in
theorem chk_any (l : List Sy) (hl : l.length ≤ 1048576) (w0 : World) (bt bs : Nat) (a : Option Addr) (c n : Nat) (hs0 : w0.cell? ⟨bs, 0, none⟩ = some (.slice a l.length c)) (hsy : IsSyms w0 a l) (hbt : w0.heap.size ≤ bt) :
    Does (chkSt l) 55 #[.pointer (some ⟨bt, 0, none⟩), .pointer (some ⟨bs, 0, none⟩)] w0 [bt] (ChkI bt) n := by
  intro w top t b o x y _ hx hy ht hext hi
  obtain ⟨hi1, hi2⟩ := hi
  obtain ⟨a', c', rfl, rfl, hf1, hf2, -, -⟩ := ht.form
  have gx := hext.cell hx
  have gy := hext.cell hy
  have gs := hext.cell hs0
  have hsy' := hsy.ext hext
  have hb1 : b ≠ bt := by have := cell_lt hx; simp at this; omega
  have hb2 : bs ≠ bt := by have := cell_lt hs0; simp at this; omega
  show Calls Tryd.prog 55 #[.pointer (some ⟨b, o, none⟩), .pointer (some ⟨bt, 0, none⟩), .pointer (some ⟨bs, 0, none⟩)] w _
  by_cases hf : t.f < 0
  · have hspec : okAt l top t = true := by unfold okAt; rw [if_pos hf]
    have Hspec := Lib.hid hspec; clear hspec
    go_enter Tryd.func55, Tryd.ntmps55
    go_wp2_with fail
    go_ret
    exact ⟨by simp only [chkSt, Hspec.out]; rfl, (Chg.refl _ _).setCell _ (.inl (by simp)), World.cell?_setCell_same _ _ _ hi1, (World.frozen?_setCell _ _ _ _).trans hi2⟩
  · obtain ⟨i, hi0⟩ : ∃ i : Nat, t.f = i := ⟨t.f.toNat, by omega⟩
    have hok : okAt l top t = match l[i]? with
      | none => false
      | some s => (s.arity == (t.ks.length : Int)) && (top || !s.pred) := by
      unfold okAt; rw [if_neg hf, hi0]; rfl
    have e1 : (chkSt l top t).1 = okAt l top t := rfl
    have e2 : (chkSt l top t).2 = false := rfl
    rw [e1, e2, hok]
    rw [hi0] at gx hf2
    unfold ChkI
    by_cases hil : i < l.length
    · obtain ⟨b2, o2, rfl, hok2, g0, g1, g2⟩ := hsy'.look hil
      have hb3 : b2 ≠ bt := by
        obtain ⟨b3, o3, e3, -, k0, -, -⟩ := hsy.look hil
        have := cell_lt k0
        simp only [Option.some.injEq, Addr.mk.injEq, and_true] at e3
        simp at this; omega
      rw [List.getElem?_eq_getElem hil]
      cases hq : (l[i].arity == (t.ks.length : Int)) with
      | false => exact (chk_B w b o bt bs i _ _ c _ b2 o2 a' top hl hf2 gx gy _ gs hb1 hb2 hi1 hi2 rfl hb3 _ _ hil (by omega) g1 g2 hq).mono fun e w' ⟨he, h⟩ => ⟨by rw [he]; simp [hq], h⟩
      | true =>
        cases top with
        | true => exact (chk_C w b o bt bs i _ _ c _ b2 o2 a' true hl hf2 gx gy _ gs hb1 hb2 hi1 hi2 rfl hb3 _ _ hil (by omega) g1 g2 hq rfl).mono fun e w' ⟨he, h⟩ => ⟨by rw [he]; simp [hq], h⟩
        | false => exact (chk_D w b o bt bs i _ _ c _ b2 o2 a' false hl hf2 gx gy _ gs hb1 hb2 hi1 hi2 rfl hb3 _ _ hil (by omega) g1 g2 hq rfl).mono fun e w' ⟨he, h⟩ => ⟨by rw [he]; simp [hq], h⟩
    · rw [List.getElem?_eq_none (by omega)]
      exact chk_A w b o bt bs i _ _ c _ 0 0 a' top hl hf2 gx gy _ gs hb1 hb2 hi1 hi2 (decide_eq_false hil)

def termCheck (l : List Sy) (t : Tm) : Int := if sigCheck l = 0 ∧ t.small 48 = true ∧ t.over l true = true then 0 else 2

theorem callFunc55 (a : Array Value) (w : World) : (callFunc 55 a).run Tryd.prog w = .ok (.enter 55 a) w := by
  go_simp

set_option maxHeartbeats 1000000 in
set_option maxRecDepth 100000 in
theorem termCheck_any (l : List Sy) (hl : l.length ≤ 1048576) (t : Tm) (hs : t.size ≤ 2097152) (w : World) (a : Option Addr) (c : Nat) (hlc : l.length ≤ c) (hc63 : c ≤ 9223372036854775807) (hsy : IsSyms w a l) (x s : Value) (ht : IsTm w x s t) :
    Calls Tryd.prog 14 #[.agg #[.slice a l.length c], .agg #[x, s]] w fun e w' => e = .returned (.int .i64 (termCheck l t)) ∧ Ext w w' := by
  have ht0 := ht
  obtain ⟨a', c', rfl, rfl, -, -, -, -⟩ := ht.form
  obtain ⟨W1, hW1⟩ : ∃ W1, W1 = w.alloc (.cells #[.slice a l.length c] 24) := ⟨_, rfl⟩
  obtain ⟨W2, hW2⟩ : ∃ W2, W2 = W1.alloc (.cells #[.int .i64 t.f, .slice a' t.ks.length c'] 27) := ⟨_, rfl⟩
  have hx1 : Ext w W2 := by subst hW2; subst hW1; go_grown
  have k0 : W2.cell? ⟨w.heap.size, 0, none⟩ = some (.slice a l.length c) := by subst hW2; subst hW1; go_simp
  have k1 : W2.cell? ⟨w.heap.size + 1, 0, none⟩ = some (.int .i64 t.f) := by subst hW2; subst hW1; go_simp
  have k2 : W2.cell? ⟨w.heap.size + 1, 1, none⟩ = some (.slice a' t.ks.length c') := by subst hW2; subst hW1; go_simp
  have hcheck := sigCheck_any l hl W2 a c hlc hc63 (hsy.ext hx1)
  subst hW1
  have Hcheck := Lib.hid hcheck; clear hcheck
  have Hk := Lib.hid (And.intro k0 (And.intro k1 k2)); clear k0 k1 k2
  have HW2 := Lib.hid hW2; clear hW2
  have hsm : ∀ w1, Ext W2 w1 → Calls Tryd.prog 53 #[.agg #[.int .i64 t.f, .slice a' t.ks.length c'], .int .i64 48] w1 fun e w' => e = .returned (.bool (t.small 48)) ∧ Ext w1 w' := fun w1 h1 => small_any 48 (by omega) (by omega) t w1 _ _ (ht0.ext (Ext.trans hx1 h1)) hs
  have Hsm := Lib.hid hsm; clear hsm
  have hea : ∀ w1, Ext W2 w1 → Calls Tryd.prog 54 #[.pointer (some ⟨w.heap.size + 1, 0, none⟩), .func (.func 55) #[] #[.pointer (some ⟨w1.heap.size, 0, none⟩), .pointer (some ⟨w.heap.size, 0, none⟩)]] (w1.alloc (.cells #[.bool true] 4)) fun e w' => e = .returned (.bool (t.eachRun (chkSt l) true).1) ∧ Ext W2 w' := by
    intro w1 h1
    have q := h1.cell Hk.out.1
    have q1 := h1.cell Hk.out.2.1
    have q2 := h1.cell Hk.out.2.2
    refine (each_any (chkSt l) 55 callFunc55 #[.pointer (some ⟨w1.heap.size, 0, none⟩), .pointer (some ⟨w.heap.size, 0, none⟩)] w1 [w1.heap.size] (by simp) (ChkI w1.heap.size) 2097152 (Nat.le_refl _) (chk_any l hl w1 w1.heap.size w.heap.size a c 2097152 q (hsy.ext (Ext.trans hx1 h1)) (Nat.le_refl _)) t (w1.alloc (.cells #[.bool true] 4)) true (w.heap.size + 1) 0 _ _ hs q1 q2 (ht0.ext (Ext.trans hx1 h1)) (ext_alloc _ _) ⟨by go_simp, by go_simp⟩).mono ?_
    rintro e w' ⟨rfl, hc, -⟩
    exact ⟨rfl, Chg.ext (Ext.trans h1 (ext_alloc _ _)) hc (by simp; exact h1.size)⟩
  have Hea := Lib.hid hea; clear hea
  clear ht ht0
  cases hz : (sigCheck l != 0) with
  | true =>
    have hres : termCheck l t = 2 := by unfold termCheck; rw [if_neg (by intro h; simp [h.1] at hz)]
    have Hres := Lib.hid hres; clear hres
    go_enter Tryd.func14, Tryd.ntmps14
    go_wp2_with ((rw [← HW2.out]; refine (Hcheck.out).mono ?_); rintro e w1 ⟨rfl, hx2⟩)
    go_ret
    exact ⟨by rw [Hres.out]; rfl, Ext.trans hx1 hx2⟩
  | false =>
    have hz0 : sigCheck l = 0 := by simpa using hz
    have Hz0 := Lib.hid hz0; clear hz0
    cases hs48 : t.small 48 with
    | false =>
      have hres : termCheck l t = 2 := by unfold termCheck; rw [if_neg (by intro h; rw [hs48] at h; simp at h)]
      have Hres := Lib.hid hres; clear hres
      go_enter Tryd.func14, Tryd.ntmps14
      go_wp2_with (first
        | ((rw [← HW2.out]; refine (Hcheck.out).mono ?_); rintro e w1 ⟨rfl, hx2⟩; obtain ⟨k0, k1, k2⟩ : w1.cell? ⟨w.heap.size, 0, none⟩ = some (.slice a l.length c) ∧ w1.cell? ⟨w.heap.size + 1, 0, none⟩ = some (.int .i64 t.f) ∧ w1.cell? ⟨w.heap.size + 1, 1, none⟩ = some (.slice a' t.ks.length c') := ⟨hx2.cell Hk.out.1, hx2.cell Hk.out.2.1, hx2.cell Hk.out.2.2⟩)
        | (go_at_call 53; refine (Hsm.out _ hx2).mono ?_; rintro e w2 ⟨rfl, hx3⟩))
      go_ret
      exact ⟨by rw [Hres.out]; rfl, Ext.trans hx1 (Ext.trans hx2 hx3)⟩
    | true =>
      have hlow : t.low 48 = true := by unfold Tm.small at hs48; simp at hs48; exact hs48.2
      have hres : termCheck l t = if t.over l true then 0 else 2 := by
        unfold termCheck; rw [Hz0.out, hs48]; cases t.over l true <;> simp
      have Hres := Lib.hid hres; clear hres
      rw [(each_over l 48 t true hlow).1] at Hea
      clear hlow
      go_enter Tryd.func14, Tryd.ntmps14
      go_wp2_with (first
        | ((rw [← HW2.out]; refine (Hcheck.out).mono ?_); rintro e w1 ⟨rfl, hx2⟩; obtain ⟨k0, k1, k2⟩ : w1.cell? ⟨w.heap.size, 0, none⟩ = some (.slice a l.length c) ∧ w1.cell? ⟨w.heap.size + 1, 0, none⟩ = some (.int .i64 t.f) ∧ w1.cell? ⟨w.heap.size + 1, 1, none⟩ = some (.slice a' t.ks.length c') := ⟨hx2.cell Hk.out.1, hx2.cell Hk.out.2.1, hx2.cell Hk.out.2.2⟩)
        | (go_at_call 53; refine (Hsm.out _ hx2).mono ?_; rintro e w2 ⟨rfl, hx3⟩)
        | (go_at_call 54; refine (Hea.out _ (Ext.trans hx2 hx3)).mono ?_; rintro e w3 ⟨rfl, hx4⟩))
      · have hb : t.over l true = false := by simpa using ‹(!t.over l true) = true›
        go_ret
        refine ⟨ret_int ?_, Ext.trans hx1 hx4⟩
        rw [Hres.out, hb]; rfl
      · have hb : t.over l true = true := by simpa using ‹(!t.over l true) = false›
        go_ret
        refine ⟨ret_int ?_, Ext.trans hx1 hx4⟩
        rw [Hres.out, hb]; rfl
end Go.Proofs.YtoidhdcbemmfhaaDoor
