/- What term.Check's function answers at each part of a term.
What the reference's Small, over and Check of layer 2 return. -/
import Derived.Test.YtdmiphdohfcbeaaEach
import Derived.Test.YtdmiphdohfcbeaaSign3
import Derived.Test.YtdmiphdohfcbeaaSmall2
namespace Go.Proofs.Ytdmiphdohfcbeaa
open Go.ChangeShapes Go.WideShapes Go.ChangeAt Go.RowKit

/-- may a symbol stand there, with so many arguments? -/
def okAt (l : List Sy) (top : Bool) (t : Tm) : Bool :=
  if t.f < 0 then true else match l[t.f.toNat]? with
    | none => false
    | some s => (s.arity == (t.ks.length : Int)) && (top || !s.pred)
def chkSt (l : List Sy) (top : Bool) (t : Tm) : Bool × Bool := (okAt l top t, false)

mutual
def Tm.over (l : List Sy) (top : Bool) : Tm → Bool
  | .mk f ks => okAt l top (.mk f ks) && (decide (f < 0) || Tm.overs l ks)
def Tm.overs (l : List Sy) : List Tm → Bool
  | [] => true
  | t :: ts => Tm.over l false t && Tm.overs l ts
end

theorem each_over (l : List Sy) (m : Int) (t : Tm) : ∀ top, t.low m = true → (t.eachRun (chkSt l) top).1 = t.over l top ∧ (t.eachRun (chkSt l) top).2 = false := by
  refine Tm.rec (motive_1 := fun t => ∀ top, t.low m = true → (t.eachRun (chkSt l) top).1 = t.over l top ∧ (t.eachRun (chkSt l) top).2 = false)
    (motive_2 := fun ks => Tm.lows m ks = true → (Tm.eachRuns (chkSt l) ks false).1 = Tm.overs l ks ∧ (Tm.eachRuns (chkSt l) ks false).2 = false) ?_ ?_ ?_ t
  · intro f ks ih top hl
    simp only [Tm.eachRun, Tm.over]
    have e1 : (chkSt l top (.mk f ks)).1 = okAt l top (.mk f ks) := rfl
    have e2 : (chkSt l top (.mk f ks)).2 = false := rfl
    by_cases ho : (chkSt l top (.mk f ks)).1 = true
    · rw [if_pos ho, ← e1, ho, e2]
      simp only [Bool.true_and]
      simp only [Tm.low] at hl
      by_cases hf : f < 0
      · rw [if_pos hf, Bool.and_eq_true, decide_eq_true_eq, decide_eq_true_eq] at hl
        have : ks = [] := List.eq_nil_of_length_eq_zero hl.2
        subst this
        simp [Tm.eachRuns, hf]
      · rw [if_neg hf] at hl
        have := ih hl
        simp [this, hf]
    · rw [if_neg ho, ← e1, e2]
      simp [ho]
  · intro _; simp [Tm.eachRuns, Tm.overs]
  · intro t ts ih1 ih2 hl
    simp only [Tm.lows, Bool.and_eq_true] at hl
    simp only [Tm.eachRuns, Tm.overs]
    obtain ⟨a1, a2⟩ := ih1 false hl.1
    cases h : (t.eachRun (chkSt l) false).1 with
    | false => rw [← a1, h]; simp [a2]
    | true => rw [← a1, h, if_pos rfl, a2]; simpa using ih2 hl.2

/-- the cell that tells whether the top comes next -/
def ChkI (bt : Nat) (w : World) (top : Bool) : Prop := w.cell? ⟨bt, 0, none⟩ = some (.bool top) ∧ w.frozen? ⟨bt, 0, none⟩ = false

set_option maxHeartbeats 400000 in
set_option maxRecDepth 100000 in
theorem chk_A (w : World) (b o bt bs i n l c cl _b2 _o2 : Nat) (a' : Option Addr) (top : Bool) (_hl : l ≤ 1048576) (_hi63 : (i : Int) ≤ 9223372036854775807) (gx : w.cell? ⟨b, o, none⟩ = some (.int .i64 i)) (_gy : w.cell? ⟨b, o + 1, none⟩ = some (.slice a' n cl)) (a : Option Addr) (gs : w.cell? ⟨bs, 0, none⟩ = some (.slice a l c)) (hb1 : b ≠ bt) (hb2 : bs ≠ bt)
    (hi1 : w.cell? ⟨bt, 0, none⟩ = some (.bool top)) (hi2 : w.frozen? ⟨bt, 0, none⟩ = false) (h1 : decide (i < l) = false) :
    Calls Try.prog 56 #[.pointer (some ⟨b, o, none⟩), .pointer (some ⟨bt, 0, none⟩), .pointer (some ⟨bs, 0, none⟩)] w
      fun e w' => e = .returned (.bool false) ∧ Chg [bt] w w' ∧ w'.cell? ⟨bt, 0, none⟩ = some (.bool false) ∧ w'.frozen? ⟨bt, 0, none⟩ = false := by
  go_enter Try.func56, Try.ntmps56
  go_wp2_with fail
  go_quiet (fail)
  go_wp2_with fail
  go_ret
  exact ⟨rfl, ((Chg.refl _ _).setCell _ (.inl (by simp))).drewN _, World.cell?_setCell_same _ _ _ hi1, (World.frozen?_setCell _ _ _ _).trans hi2⟩

set_option maxHeartbeats 400000 in
set_option maxRecDepth 100000 in
theorem chk_B (w : World) (b o bt bs i n l c cl b2 o2 : Nat) (a' : Option Addr) (top : Bool) (hl : l ≤ 1048576) (hi63 : (i : Int) ≤ 9223372036854775807) (gx : w.cell? ⟨b, o, none⟩ = some (.int .i64 i)) (gy : w.cell? ⟨b, o + 1, none⟩ = some (.slice a' n cl)) (a : Option Addr) (gs : w.cell? ⟨bs, 0, none⟩ = some (.slice a l c)) (hb1 : b ≠ bt) (hb2 : bs ≠ bt)
    (hi1 : w.cell? ⟨bt, 0, none⟩ = some (.bool top)) (hi2 : w.frozen? ⟨bt, 0, none⟩ = false) (ha : a = some ⟨b2, o2, none⟩) (hb3 : b2 ≠ bt) (ar : Int) (p : Bool) (hil : i < l) (hil' : (i : Int) < l) (g1 : w.cell? ⟨b2, o2 + i * 3 + 1, none⟩ = some (.int .i64 ar)) (_g2 : w.cell? ⟨b2, o2 + i * 3 + 2, none⟩ = some (.bool p)) (h2 : (ar == (n : Int)) = false) :
    Calls Try.prog 56 #[.pointer (some ⟨b, o, none⟩), .pointer (some ⟨bt, 0, none⟩), .pointer (some ⟨bs, 0, none⟩)] w
      fun e w' => e = .returned (.bool false) ∧ Chg [bt] w w' ∧ w'.cell? ⟨bt, 0, none⟩ = some (.bool false) ∧ w'.frozen? ⟨bt, 0, none⟩ = false := by
  subst ha
  go_enter Try.func56, Try.ntmps56
  go_wp2_with fail
  go_quiet (fail)
  go_wp2_with fail
  go_ret
  exact ⟨rfl, ((Chg.refl _ _).setCell _ (.inl (by simp))).drewN _, World.cell?_setCell_same _ _ _ hi1, (World.frozen?_setCell _ _ _ _).trans hi2⟩

set_option maxHeartbeats 400000 in
set_option maxRecDepth 100000 in
theorem chk_C (w : World) (b o bt bs i n l c cl b2 o2 : Nat) (a' : Option Addr) (top : Bool) (hl : l ≤ 1048576) (hi63 : (i : Int) ≤ 9223372036854775807) (gx : w.cell? ⟨b, o, none⟩ = some (.int .i64 i)) (gy : w.cell? ⟨b, o + 1, none⟩ = some (.slice a' n cl)) (a : Option Addr) (gs : w.cell? ⟨bs, 0, none⟩ = some (.slice a l c)) (hb1 : b ≠ bt) (hb2 : bs ≠ bt)
    (hi1 : w.cell? ⟨bt, 0, none⟩ = some (.bool top)) (hi2 : w.frozen? ⟨bt, 0, none⟩ = false) (ha : a = some ⟨b2, o2, none⟩) (hb3 : b2 ≠ bt) (ar : Int) (p : Bool) (hil : i < l) (hil' : (i : Int) < l) (g1 : w.cell? ⟨b2, o2 + i * 3 + 1, none⟩ = some (.int .i64 ar)) (_g2 : w.cell? ⟨b2, o2 + i * 3 + 2, none⟩ = some (.bool p)) (h2 : (ar == (n : Int)) = true) (ht : top = true) :
    Calls Try.prog 56 #[.pointer (some ⟨b, o, none⟩), .pointer (some ⟨bt, 0, none⟩), .pointer (some ⟨bs, 0, none⟩)] w
      fun e w' => e = .returned (.bool true) ∧ Chg [bt] w w' ∧ w'.cell? ⟨bt, 0, none⟩ = some (.bool false) ∧ w'.frozen? ⟨bt, 0, none⟩ = false := by
  subst ha
  subst ht
  go_enter Try.func56, Try.ntmps56
  go_wp2_with fail
  go_quiet (fail)
  go_wp2_with fail
  go_ret
  exact ⟨rfl, ((Chg.refl _ _).setCell _ (.inl (by simp))).drewN _, World.cell?_setCell_same _ _ _ hi1, (World.frozen?_setCell _ _ _ _).trans hi2⟩

set_option maxHeartbeats 400000 in
set_option maxRecDepth 100000 in
theorem chk_D (w : World) (b o bt bs i n l c cl b2 o2 : Nat) (a' : Option Addr) (top : Bool) (hl : l ≤ 1048576) (hi63 : (i : Int) ≤ 9223372036854775807) (gx : w.cell? ⟨b, o, none⟩ = some (.int .i64 i)) (gy : w.cell? ⟨b, o + 1, none⟩ = some (.slice a' n cl)) (a : Option Addr) (gs : w.cell? ⟨bs, 0, none⟩ = some (.slice a l c)) (hb1 : b ≠ bt) (hb2 : bs ≠ bt)
    (hi1 : w.cell? ⟨bt, 0, none⟩ = some (.bool top)) (hi2 : w.frozen? ⟨bt, 0, none⟩ = false) (ha : a = some ⟨b2, o2, none⟩) (hb3 : b2 ≠ bt) (ar : Int) (p : Bool) (hil : i < l) (hil' : (i : Int) < l) (g1 : w.cell? ⟨b2, o2 + i * 3 + 1, none⟩ = some (.int .i64 ar)) (g2 : w.cell? ⟨b2, o2 + i * 3 + 2, none⟩ = some (.bool p)) (h2 : (ar == (n : Int)) = true) (ht : top = false) :
    Calls Try.prog 56 #[.pointer (some ⟨b, o, none⟩), .pointer (some ⟨bt, 0, none⟩), .pointer (some ⟨bs, 0, none⟩)] w
      fun e w' => e = .returned (.bool (!p)) ∧ Chg [bt] w w' ∧ w'.cell? ⟨bt, 0, none⟩ = some (.bool false) ∧ w'.frozen? ⟨bt, 0, none⟩ = false := by
  subst ha
  subst ht
  go_enter Try.func56, Try.ntmps56
  go_wp2_with fail
  go_quiet (fail)
  go_wp2_with fail
  go_ret
  exact ⟨rfl, ((Chg.refl _ _).setCell _ (.inl (by simp))).drewN _, World.cell?_setCell_same _ _ _ hi1, (World.frozen?_setCell _ _ _ _).trans hi2⟩

set_option maxHeartbeats 1000000 in
set_option maxRecDepth 100000 in
theorem chk_any (l : List Sy) (hl : l.length ≤ 1048576) (w0 : World) (bt bs : Nat) (a : Option Addr) (c n : Nat) (hs0 : w0.cell? ⟨bs, 0, none⟩ = some (.slice a l.length c)) (hsy : IsSyms w0 a l) (hbt : w0.heap.size ≤ bt) :
    Does (chkSt l) 56 #[.pointer (some ⟨bt, 0, none⟩), .pointer (some ⟨bs, 0, none⟩)] w0 [bt] (ChkI bt) n := by
  intro w top t b o x y _ hx hy ht hext hi
  obtain ⟨hi1, hi2⟩ := hi
  obtain ⟨a', c', rfl, rfl, hf1, hf2, -, -⟩ := ht.form
  have gx := hext.cell hx
  have gy := hext.cell hy
  have gs := hext.cell hs0
  have hsy' := hsy.ext hext
  have hb1 : b ≠ bt := by have := cell_lt hx; simp at this; omega
  have hb2 : bs ≠ bt := by have := cell_lt hs0; simp at this; omega
  show Calls Try.prog 56 #[.pointer (some ⟨b, o, none⟩), .pointer (some ⟨bt, 0, none⟩), .pointer (some ⟨bs, 0, none⟩)] w _
  by_cases hf : t.f < 0
  · have hspec : okAt l top t = true := by unfold okAt; rw [if_pos hf]
    have Hspec := Lib.hid hspec; clear hspec
    go_enter Try.func56, Try.ntmps56
    go_wp2_with fail
    go_ret
    exact ⟨by simp only [chkSt, Hspec.out]; rfl, (Chg.refl _ _).setCell _ (.inl (by simp)), World.cell?_setCell_same _ _ _ hi1, (World.frozen?_setCell _ _ _ _).trans hi2⟩
  · obtain ⟨i, hi0⟩ : ∃ i : Nat, t.f = i := ⟨t.f.toNat, by omega⟩
    have hok : okAt l top t = match l[i]? with
      | none => false
      | some s => (s.arity == (t.ks.length : Int)) && (top || !s.pred) := by
      unfold okAt; rw [if_neg hf, hi0]; rfl
    have e1 : (chkSt l top t).1 = okAt l top t := rfl
    have e2 : (chkSt l top t).2 = false := rfl
    rw [e1, e2, hok]
    rw [hi0] at gx hf2
    unfold ChkI
    by_cases hil : i < l.length
    · obtain ⟨b2, o2, rfl, hok2, g0, g1, g2⟩ := hsy'.look hil
      have hb3 : b2 ≠ bt := by
        obtain ⟨b3, o3, e3, -, k0, -, -⟩ := hsy.look hil
        have := cell_lt k0
        simp only [Option.some.injEq, Addr.mk.injEq, and_true] at e3
        simp at this; omega
      rw [List.getElem?_eq_getElem hil]
      cases hq : (l[i].arity == (t.ks.length : Int)) with
      | false => exact (chk_B w b o bt bs i _ _ c _ b2 o2 a' top hl hf2 gx gy _ gs hb1 hb2 hi1 hi2 rfl hb3 _ _ hil (by omega) g1 g2 hq).mono fun e w' ⟨he, h⟩ => ⟨by rw [he]; simp [hq], h⟩
      | true =>
        cases top with
        | true => exact (chk_C w b o bt bs i _ _ c _ b2 o2 a' true hl hf2 gx gy _ gs hb1 hb2 hi1 hi2 rfl hb3 _ _ hil (by omega) g1 g2 hq rfl).mono fun e w' ⟨he, h⟩ => ⟨by rw [he]; simp [hq], h⟩
        | false => exact (chk_D w b o bt bs i _ _ c _ b2 o2 a' false hl hf2 gx gy _ gs hb1 hb2 hi1 hi2 rfl hb3 _ _ hil (by omega) g1 g2 hq rfl).mono fun e w' ⟨he, h⟩ => ⟨by rw [he]; simp [hq], h⟩
    · rw [List.getElem?_eq_none (by omega)]
      exact chk_A w b o bt bs i _ _ c _ 0 0 a' top hl hf2 gx gy _ gs hb1 hb2 hi1 hi2 (decide_eq_false hil)

def termCheck (l : List Sy) (t : Tm) : Int := if sigCheck l = 0 ∧ t.small 48 = true ∧ t.over l true = true then 0 else 2

theorem callFunc55 (a : Array Value) (w : World) : (callFunc 56 a).run Try.prog w = .ok (.enter 56 a) w := by
  go_simp

set_option maxHeartbeats 1000000 in
set_option maxRecDepth 100000 in
theorem termCheck_any (l : List Sy) (hl : l.length ≤ 1048576) (t : Tm) (hs : t.size ≤ 2097152) (w : World) (a : Option Addr) (c : Nat) (hlc : l.length ≤ c) (hc63 : c ≤ 9223372036854775807) (hsy : IsSyms w a l) (x s : Value) (ht : IsTm w x s t) :
    Calls Try.prog 32 #[.agg #[.slice a l.length c], .agg #[x, s]] w fun e w' => e = .returned (.int .i64 (termCheck l t)) ∧ Ext w w' := by
  have ht0 := ht
  obtain ⟨a', c', rfl, rfl, -, -, -, -⟩ := ht.form
  obtain ⟨W1, hW1⟩ : ∃ W1, W1 = w.alloc (.cells #[.slice a l.length c] 24) := ⟨_, rfl⟩
  obtain ⟨W2, hW2⟩ : ∃ W2, W2 = W1.alloc (.cells #[.int .i64 t.f, .slice a' t.ks.length c'] 62) := ⟨_, rfl⟩
  have hx1 : Ext w W2 := by subst hW2; subst hW1; go_grown
  have k0 : W2.cell? ⟨w.heap.size, 0, none⟩ = some (.slice a l.length c) := by subst hW2; subst hW1; go_simp
  have k1 : W2.cell? ⟨w.heap.size + 1, 0, none⟩ = some (.int .i64 t.f) := by subst hW2; subst hW1; go_simp
  have k2 : W2.cell? ⟨w.heap.size + 1, 1, none⟩ = some (.slice a' t.ks.length c') := by subst hW2; subst hW1; go_simp
  have hcheck := sigCheck_any l hl W2 a c hlc hc63 (hsy.ext hx1)
  subst hW1
  have Hcheck := Lib.hid hcheck; clear hcheck
  have Hk := Lib.hid (And.intro k0 (And.intro k1 k2)); clear k0 k1 k2
  have HW2 := Lib.hid hW2; clear hW2
  have hsm : ∀ w1, Ext W2 w1 → Calls Try.prog 54 #[.agg #[.int .i64 t.f, .slice a' t.ks.length c'], .int .i64 48] w1 fun e w' => e = .returned (.bool (t.small 48)) ∧ Ext w1 w' := fun w1 h1 => small_any 48 (by omega) (by omega) t w1 _ _ (ht0.ext (Ext.trans hx1 h1)) hs
  have Hsm := Lib.hid hsm; clear hsm
  have hea : ∀ w1, Ext W2 w1 → Calls Try.prog 55 #[.pointer (some ⟨w.heap.size + 1, 0, none⟩), .func (.func 56) #[] #[.pointer (some ⟨w1.heap.size, 0, none⟩), .pointer (some ⟨w.heap.size, 0, none⟩)]] (w1.alloc (.cells #[.bool true] 4)) fun e w' => e = .returned (.bool (t.eachRun (chkSt l) true).1) ∧ Ext W2 w' := by
    intro w1 h1
    have q := h1.cell Hk.out.1
    have q1 := h1.cell Hk.out.2.1
    have q2 := h1.cell Hk.out.2.2
    refine (each_any (chkSt l) 56 callFunc55 #[.pointer (some ⟨w1.heap.size, 0, none⟩), .pointer (some ⟨w.heap.size, 0, none⟩)] w1 [w1.heap.size] (by simp) (ChkI w1.heap.size) 2097152 (Nat.le_refl _) (chk_any l hl w1 w1.heap.size w.heap.size a c 2097152 q (hsy.ext (Ext.trans hx1 h1)) (Nat.le_refl _)) t (w1.alloc (.cells #[.bool true] 4)) true (w.heap.size + 1) 0 _ _ hs q1 q2 (ht0.ext (Ext.trans hx1 h1)) (ext_alloc _ _) ⟨by go_simp, by go_simp⟩).mono ?_
    rintro e w' ⟨rfl, hc, -⟩
    exact ⟨rfl, Chg.ext (Ext.trans h1 (ext_alloc _ _)) hc (by simp; exact h1.size)⟩
  have Hea := Lib.hid hea; clear hea
  clear ht ht0
  cases hz : (sigCheck l != 0) with
  | true =>
    have hres : termCheck l t = 2 := by unfold termCheck; rw [if_neg (by intro h; simp [h.1] at hz)]
    have Hres := Lib.hid hres; clear hres
    go_enter Try.func32, Try.ntmps32
    go_wp2_with ((rw [← HW2.out]; refine (Hcheck.out).mono ?_); rintro e w1 ⟨rfl, hx2⟩)
    go_ret
    exact ⟨by rw [Hres.out]; rfl, Ext.trans hx1 hx2⟩
  | false =>
    have hz0 : sigCheck l = 0 := by simpa using hz
    have Hz0 := Lib.hid hz0; clear hz0
    cases hs48 : t.small 48 with
    | false =>
      have hres : termCheck l t = 2 := by unfold termCheck; rw [if_neg (by intro h; rw [hs48] at h; simp at h)]
      have Hres := Lib.hid hres; clear hres
      go_enter Try.func32, Try.ntmps32
      go_wp2_with (first
        | ((rw [← HW2.out]; refine (Hcheck.out).mono ?_); rintro e w1 ⟨rfl, hx2⟩; obtain ⟨k0, k1, k2⟩ : w1.cell? ⟨w.heap.size, 0, none⟩ = some (.slice a l.length c) ∧ w1.cell? ⟨w.heap.size + 1, 0, none⟩ = some (.int .i64 t.f) ∧ w1.cell? ⟨w.heap.size + 1, 1, none⟩ = some (.slice a' t.ks.length c') := ⟨hx2.cell Hk.out.1, hx2.cell Hk.out.2.1, hx2.cell Hk.out.2.2⟩)
        | (go_at_call 54; refine (Hsm.out _ hx2).mono ?_; rintro e w2 ⟨rfl, hx3⟩))
      go_ret
      exact ⟨by rw [Hres.out]; rfl, Ext.trans hx1 (Ext.trans hx2 hx3)⟩
    | true =>
      have hlow : t.low 48 = true := by unfold Tm.small at hs48; simp at hs48; exact hs48.2
      have hres : termCheck l t = if t.over l true then 0 else 2 := by
        unfold termCheck; rw [Hz0.out, hs48]; cases t.over l true <;> simp
      have Hres := Lib.hid hres; clear hres
      rw [(each_over l 48 t true hlow).1] at Hea
      clear hlow
      go_enter Try.func32, Try.ntmps32
      go_wp2_with (first
        | ((rw [← HW2.out]; refine (Hcheck.out).mono ?_); rintro e w1 ⟨rfl, hx2⟩; obtain ⟨k0, k1, k2⟩ : w1.cell? ⟨w.heap.size, 0, none⟩ = some (.slice a l.length c) ∧ w1.cell? ⟨w.heap.size + 1, 0, none⟩ = some (.int .i64 t.f) ∧ w1.cell? ⟨w.heap.size + 1, 1, none⟩ = some (.slice a' t.ks.length c') := ⟨hx2.cell Hk.out.1, hx2.cell Hk.out.2.1, hx2.cell Hk.out.2.2⟩)
        | (go_at_call 54; refine (Hsm.out _ hx2).mono ?_; rintro e w2 ⟨rfl, hx3⟩)
        | (go_at_call 55; refine (Hea.out _ (Ext.trans hx2 hx3)).mono ?_; rintro e w3 ⟨rfl, hx4⟩))
      · have hb : t.over l true = false := by simpa using ‹(!t.over l true) = true›
        go_ret
        refine ⟨ret_int ?_, Ext.trans hx1 hx4⟩
        rw [Hres.out, hb]; rfl
      · have hb : t.over l true = true := by simpa using ‹(!t.over l true) = false›
        go_ret
        refine ⟨ret_int ?_, Ext.trans hx1 hx4⟩
        rw [Hres.out, hb]; rfl
end Go.Proofs.Ytdmiphdohfcbeaa
namespace Go.Proofs.Ytdmiphdohfcbeaa
open Go.ChangeShapes Go.WideShapes Go.ChangeAt Go.RowKit

set_option maxHeartbeats 1000000 in
theorem refSmall_any (t : Tm) (w : World) (x s : Value) (ht : IsTm w x s t) (hs : t.size ≤ 2097152) :
    Calls Try.prog 59 #[.agg #[x, s], .int .i64 48] w fun e w' => e = .returned (.bool (t.small 48)) ∧ Ext w w' := by
  have ht0 := ht
  obtain ⟨a, c, rfl, rfl, -, -, -, -⟩ := ht.form
  obtain ⟨c0, c1⟩ := cells2 w (.int .i64 t.f) (.slice a t.ks.length c) 62
  have hx0 := ext_alloc w (.cells #[.int .i64 t.f, .slice a t.ks.length c] 62)
  have Hc := Lib.hid (And.intro c0 c1)
  have Hx0 := Lib.hid hx0; clear hx0
  have Ht := Lib.hid ht0; clear ht0 ht
  have hA : (t.size : Int) ≤ 2097152 := by omega
  have hdep := depth_le_size t
  go_enter Try.func59, Try.ntmps59
  go_wp2_with (first
    | (go_at_call 79; refine (refSize_any t _ _ _ (Ht.out.ext Hx0.out) hs).mono ?_; rintro e w1 ⟨rfl, hx1⟩; replace c0 := hx1.cell c0; replace c1 := hx1.cell c1)
    | (go_at_call 80; refine (refDepth_any t _ _ _ (Ht.out.ext (Ext.trans Hx0.out hx1)) hs).mono ?_; rintro e w2 ⟨rfl, hx2⟩; replace c0 := hx2.cell c0; replace c1 := hx2.cell c1)
    | (go_at_call 81; refine (low_any 48 (by omega) (by omega) t _ _ _ (Ht.out.ext (Ext.trans Hx0.out (Ext.trans hx1 hx2))) hs).mono ?_; rintro e w3 ⟨rfl, hx3⟩))
  · have q1 : (t.size : Int) ≤ 300 := by assumption
    have q2 : (t.depth : Int) ≤ 30 := by assumption
    have r1 : t.size ≤ 300 := by omega
    have r2 : t.depth ≤ 30 := by omega
    go_ret
    exact ⟨ret_bool (by simp [Tm.small, r1, r2]), Ext.trans Hx0.out (Ext.trans hx1 (Ext.trans hx2 hx3))⟩
  · have q2 : (30 : Int) < t.depth := by assumption
    have r2 : ¬ t.depth ≤ 30 := by omega
    go_ret
    exact ⟨ret_bool (by simp [Tm.small, r2]), Ext.trans Hx0.out (Ext.trans hx1 hx2)⟩
  · have q1 : (300 : Int) < t.size := by assumption
    have r1 : ¬ t.size ≤ 300 := by omega
    go_ret
    exact ⟨ret_bool (by simp [Tm.small, r1]), Ext.trans Hx0.out hx1⟩

theorem overs_take {l : List Sy} {ks : List Tm} {k : Nat} (h : k < ks.length) : Tm.overs l (ks.take (k+1)) = (Tm.overs l (ks.take k) && ks[k].over l false) := by
  induction ks generalizing k with
  | nil => simp at h
  | cons t ts ih =>
    cases k with
    | zero => simp [Tm.overs]
    | succ k => simp only [List.take_succ_cons, Tm.overs, List.getElem_cons_succ]; rw [ih (by simpa using h), Bool.and_assoc]
theorem overs_false {l : List Sy} {ks : List Tm} {k : Nat} (h : Tm.overs l (ks.take k) = false) : Tm.overs l ks = false := by
  induction ks generalizing k with
  | nil => simp [Tm.overs] at h
  | cons t ts ih =>
    cases k with
    | zero => simp [Tm.overs] at h
    | succ k =>
      simp only [List.take_succ_cons, Tm.overs, Bool.and_eq_false_iff] at h ⊢
      exact h.imp id (fun h => ih h)

set_option maxHeartbeats 1000000 in
set_option maxRecDepth 100000 in
theorem refOver_any (l : List Sy) (_hl : l.length ≤ 1048576) (t : Tm) : ∀ (top : Bool) (w : World) (a : Option Addr) (c : Nat) (x s : Value), IsSyms w a l → IsTm w x s t → t.size ≤ 2097152 →
    Calls Try.prog 60 #[.agg #[.slice a l.length c], .agg #[x, s], .bool top] w fun e w' => e = .returned (.bool (t.over l top)) ∧ Ext w w' := by
  induction t using Tm.ind with
  | h f ks ih =>
    intro top w a c x s hsy ht hs
    simp only [IsTm] at ht
    obtain ⟨rfl, hf1, hf2, a', c', rfl, hc, hk⟩ := ht
    simp only [Tm.size] at hs
    have hkl := length_le_sizes ks
    have Hih := Lib.hid ih; clear ih
    by_cases hf : f < 0
    · have Hspec := Lib.hid (show Tm.over l top (.mk f ks) = true by simp [Tm.over, okAt, Tm.f, hf])
      go_enter Try.func60, Try.ntmps60
      go_wp2_with fail
      go_ret
      exact ⟨ret_bool Hspec.out.symm, by go_grown⟩
    obtain ⟨i, rfl⟩ : ∃ i : Nat, f = i := ⟨f.toNat, by omega⟩
    have gt : decide ((i : Int) < 0) = false := decide_eq_false hf
    have hok : okAt l top (.mk i ks) = match l[i]? with
      | none => false
      | some s => (s.arity == (ks.length : Int)) && (top || !s.pred) := by
      unfold okAt; rw [if_neg (by simp [Tm.f])]; rfl
    by_cases hil : l.length ≤ i
    · have Hspec := Lib.hid (show Tm.over l top (.mk i ks) = false by simp only [Tm.over]; rw [hok, List.getElem?_eq_none hil]; rfl)
      clear hok
      go_enter Try.func60, Try.ntmps60
      go_wp2_with fail
      go_ret
      exact ⟨ret_bool Hspec.out.symm, by go_grown⟩
    have hil2 : i < l.length := by omega
    rw [List.getElem?_eq_getElem hil2] at hok
    obtain ⟨b2, o2, rfl, hok2, g0, g1, g2⟩ := hsy.look hil2
    have hil3 : (i : Int) < l.length := by omega
    generalize hq : l[i] = q at hok hok2 g0 g1 g2
    clear hq
    obtain ⟨n, ar, p⟩ := q
    have Hok := Lib.hid hok; clear hok
    have Hf := Lib.hid hf; clear hf
    obtain ⟨W, hW⟩ : ∃ W, W = ((w.alloc (.cells #[.slice (some ⟨b2, o2, none⟩) l.length c] 24)).alloc (.cells #[.int .i64 i, .slice a' ks.length c'] 62)) := ⟨_, rfl⟩
    have hx : Ext w W := by subst hW; go_grown
    have g0' := hx.cell g0
    have g1' := hx.cell g1
    have g2' := hx.cell g2
    subst hW
    have Hx := Lib.hid hx; clear hx
    clear g0 g1 g2
    by_cases hbad : (ar != (ks.length : Int)) = true ∨ (p = true ∧ top = false)
    · have hres : Tm.over l top (.mk i ks) = false := by
        simp only [Tm.over]; rw [Hok.out]
        rcases hbad with h | ⟨h1, h2⟩
        · rw [bne, Bool.not_eq_true'] at h; simp [h]
        · simp [h1, h2]
      have Hres := Lib.hid hres; clear hres
      by_cases h1 : (ar != (ks.length : Int)) = true
      · go_enter Try.func60, Try.ntmps60
        go_wp2_with fail
        go_ret
        exact ⟨ret_bool Hres.out.symm, Ext.trans Hx.out (by go_grown)⟩
      · obtain ⟨rfl, rfl⟩ := hbad.resolve_left h1
        have h1' : (ar != (ks.length : Int)) = false := by simpa using h1
        clear h1 hbad
        go_enter Try.func60, Try.ntmps60
        go_wp2_with fail
        go_ret
        exact ⟨ret_bool Hres.out.symm, Ext.trans Hx.out (by go_grown)⟩
    have h1 : (ar != (ks.length : Int)) = false := by
      cases h : (ar != (ks.length : Int)) with
      | false => rfl
      | true => exact absurd (.inl h) hbad
    have hpt : p = false ∨ top = true := by
      cases p <;> cases top <;> simp at hbad ⊢
    have hres : Tm.over l top (.mk i ks) = Tm.overs l ks := by
      simp only [Tm.over]; rw [Hok.out]
      have : (ar == (ks.length : Int)) = true := by rw [bne] at h1; simpa using h1
      simp only [this, Bool.true_and]
      have e : decide ((i : Int) < 0) = false := gt
      rw [e]
      rcases hpt with h | h <;> simp [h]
    have Hres := Lib.hid hres; clear hres hbad
    have hpt2 : p = false ∨ (p = true ∧ top = true) := by
      cases p with
      | false => exact .inl rfl
      | true => rcases hpt with h | h; cases h; exact .inr ⟨rfl, h⟩
    clear hpt
    have Hgt := Lib.hid gt; clear gt
    rcases hpt2 with rfl | ⟨rfl, rfl⟩
    all_goals
      have gt := Hgt.out
      go_enter Try.func60, Try.ntmps60
      go_wp2_with fail
      go_loopw [8] (fun i wr => ∃ k : Nat, k ≤ ks.length ∧ i = .int .i64 k ∧ Tm.overs l (ks.take k) = true ∧ Ext w wr ∧ wr.cell? ⟨w.heap.size, 0, none⟩ = some (.slice (some ⟨b2, o2, none⟩) l.length c) ∧ wr.cell? ⟨w.heap.size + 1, 1, none⟩ = some (.slice a' ks.length c')) (fun i _ => ks.length - (intOf i).toNat)
      case atStart => exact ⟨0, Nat.zero_le _, rfl, rfl, Ext.trans Hx.out (by go_grown), by go_simp, by go_simp⟩
      case round =>
        obtain ⟨k, hkk, rfl, hall, hext, d0, d1⟩ := hrel
        have Hall := Lib.hid hall; clear hall
        clear g0' g1' g2'
        by_cases hlt : k < ks.length
        · have hm := Hih.out _ (List.getElem_mem hlt)
          have hke := hk.ext hext
          obtain ⟨b, o, a2, c2, rfl, h1', h2, h3⟩ := hke.look hlt
          have hst := overs_take (l := l) hlt
          have hp2 : Tm.size ks[k] ≤ 2097152 := by have := size_le_sizes hlt; omega
          have Hst := Lib.hid hst; clear hst
          have hk1 : (k : Int) < ks.length := by omega
          have hk0 : (0 : Int) ≤ (k : Int) := by omega
          have hsy' := hsy.ext hext
          have Hm := Lib.hid hm; clear hm
          go_wp2_with fail
          go_region_held3 (fun w' => w'.cell? ⟨w.heap.size, 0, none⟩ = some (.slice (some ⟨b2, o2, none⟩) l.length c) ∧ w'.cell? ⟨w.heap.size + 1, 1, none⟩ = some (.slice (some ⟨b, o, none⟩) ks.length c') ∧ w'.cell? ⟨b, o + k * 2, none⟩ = some (.int .i64 ks[k].f) ∧ w'.cell? ⟨b, o + k * 2 + 1, none⟩ = some (.slice a2 ks[k].ks.length c2) ∧ Ext wr w')
            (((try go_split_ands); refine ⟨?_, ?_, ?_, ?_, ?_⟩ <;> first | (with_reducible assumption) | exact Below.drew (Below.refl _ _) | exact Ext.drew (by assumption) | exact Ext.drew (ext_alloc _ _) | (apply Ext.cell hw'; (with_reducible assumption)) | exact Ext.trans (by assumption) hw' | exact Ext.frozen hw' (by (with_reducible assumption)) (by (with_reducible assumption)) | (go_keep; done)))
            ((go_at_call 60; go_split_ands; refine (Hm.out false _ _ c _ _ (hsy'.ext (by assumption)) (h3.ext (by assumption)) hp2).mono ?_; rintro e w' ⟨rfl, hw'⟩))
          go_split_ands
          go_wp2_with fail
          · have hf : ks[k].over l false = false := by simpa using ‹(!ks[k].over l false) = true›
            go_ret
            have h := Hst.out
            rw [hf, Bool.and_false] at h
            exact ⟨ret_bool (by rw [Hres.out, overs_false h]), Ext.trans hext (by assumption)⟩
          · have hf : ks[k].over l false = true := by simpa using ‹(!ks[k].over l false) = false›
            go_roundw
            case rel => exact ⟨k + 1, by omega, by go_num, by rw [Hst.out, Hall.out, hf]; rfl, Ext.trans hext (by assumption), by assumption, by assumption⟩
            case measure => simp [intOf]; omega
        · go_wp2_with fail
          have : k = ks.length := by omega
          subst this
          go_ret
          have h := Hall.out
          rw [List.take_length] at h
          exact ⟨ret_bool (by rw [Hres.out, h]), hext⟩

set_option maxHeartbeats 1000000 in
theorem refTermCheck_any (l : List Sy) (hl : l.length ≤ 1048576) (t : Tm) (hs : t.size ≤ 2097152) (w : World) (a : Option Addr) (c : Nat) (hsy : IsSyms w a l) (x s : Value) (ht : IsTm w x s t) :
    Calls Try.prog 34 #[.agg #[.slice a l.length c], .agg #[x, s]] w fun e w' => e = .returned (.int .i64 (termCheck l t)) ∧ Ext w w' := by
  have ht0 := ht
  obtain ⟨a', c', rfl, rfl, -, -, -, -⟩ := ht.form
  obtain ⟨W, hW⟩ : ∃ W, W = ((w.alloc (.cells #[.slice a l.length c] 24)).alloc (.cells #[.int .i64 t.f, .slice a' t.ks.length c'] 62)) := ⟨_, rfl⟩
  have hx : Ext w W := by subst hW; go_grown
  have k0 : W.cell? ⟨w.heap.size, 0, none⟩ = some (.slice a l.length c) := by subst hW; go_simp
  have k1 : W.cell? ⟨w.heap.size + 1, 0, none⟩ = some (.int .i64 t.f) := by subst hW; go_simp
  have k2 : W.cell? ⟨w.heap.size + 1, 1, none⟩ = some (.slice a' t.ks.length c') := by subst hW; go_simp
  subst hW
  have Hx := Lib.hid hx; clear hx
  have Hall : ∀ w1, Ext w w1 → IsSyms w1 a l ∧ IsTm w1 (.int .i64 t.f) (.slice a' t.ks.length c') t := fun w1 h1 => ⟨hsy.ext h1, ht0.ext h1⟩
  have Hall := Lib.hid Hall
  clear ht ht0 hsy
  cases hz : (sigCheck l != 0) with
  | true =>
    have Hres := Lib.hid (show termCheck l t = 2 by unfold termCheck; rw [if_neg (by intro h; simp [h.1] at hz)])
    go_enter Try.func34, Try.ntmps34
    go_wp2_with (go_at_call 25; refine (refSigCheck_any l hl _ a c (Hall.out _ Hx.out).1).mono ?_; rintro e w1 ⟨rfl, hx1⟩)
    go_ret
    exact ⟨ret_int Hres.out.symm, Ext.trans Hx.out hx1⟩
  | false =>
    have hz0 : sigCheck l = 0 := by simpa using hz
    have Hz0 := Lib.hid hz0; clear hz0
    cases hs48 : t.small 48 with
    | false =>
      have Hres := Lib.hid (show termCheck l t = 2 by unfold termCheck; rw [if_neg (by intro h; rw [hs48] at h; simp at h)])
      go_enter Try.func34, Try.ntmps34
      go_wp2_with (first
        | (go_at_call 25; refine (refSigCheck_any l hl _ a c (Hall.out _ Hx.out).1).mono ?_; rintro e w1 ⟨rfl, hx1⟩; replace k0 := hx1.cell k0; replace k1 := hx1.cell k1; replace k2 := hx1.cell k2)
        | (go_at_call 59; refine (refSmall_any t _ _ _ (Hall.out _ (Ext.trans Hx.out hx1)).2 hs).mono ?_; rintro e w2 ⟨rfl, hx2⟩; replace k0 := hx2.cell k0; replace k1 := hx2.cell k1; replace k2 := hx2.cell k2))
      go_ret
      exact ⟨ret_int Hres.out.symm, Ext.trans Hx.out (Ext.trans hx1 hx2)⟩
    | true =>
      have hres : termCheck l t = if t.over l true then 0 else 2 := by
        unfold termCheck; rw [Hz0.out, hs48]; cases t.over l true <;> simp
      have Hres := Lib.hid hres; clear hres
      go_enter Try.func34, Try.ntmps34
      go_wp2_with (first
        | (go_at_call 25; refine (refSigCheck_any l hl _ a c (Hall.out _ Hx.out).1).mono ?_; rintro e w1 ⟨rfl, hx1⟩; replace k0 := hx1.cell k0; replace k1 := hx1.cell k1; replace k2 := hx1.cell k2)
        | (go_at_call 59; refine (refSmall_any t _ _ _ (Hall.out _ (Ext.trans Hx.out hx1)).2 hs).mono ?_; rintro e w2 ⟨rfl, hx2⟩; replace k0 := hx2.cell k0; replace k1 := hx2.cell k1; replace k2 := hx2.cell k2)
        | (go_at_call 60; refine (refOver_any l hl t true _ a c _ _ (Hall.out _ (Ext.trans Hx.out (Ext.trans hx1 hx2))).1 (Hall.out _ (Ext.trans Hx.out (Ext.trans hx1 hx2))).2 hs).mono ?_; rintro e w3 ⟨rfl, hx3⟩))
      · have hb : t.over l true = false := by simpa using ‹(!t.over l true) = true›
        go_ret
        exact ⟨ret_int (by rw [Hres.out, hb]; rfl), Ext.trans Hx.out (Ext.trans hx1 (Ext.trans hx2 hx3))⟩
      · have hb : t.over l true = true := by simpa using ‹(!t.over l true) = false›
        go_ret
        exact ⟨ret_int (by rw [Hres.out, hb]; rfl), Ext.trans Hx.out (Ext.trans hx1 (Ext.trans hx2 hx3))⟩
end Go.Proofs.Ytdmiphdohfcbeaa
