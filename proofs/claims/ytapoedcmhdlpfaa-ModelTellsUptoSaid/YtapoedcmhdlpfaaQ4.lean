/- What the program's sign.Check returns, for every signature that lies in memory: the first fault, or 0.
What the program's sign.Check returns, for every signature that lies in memory: the first fault, or 0. -/
import Derived.Test.YtapoedcmhdlpfaaQ3
import Derived.Maps.Own
import Derived.Maps.OwnOps
import Derived.Maps.OwnSet
import Derived.Maps.Views
namespace Go.Proofs.Ytapoedcmhdlpfaa
open Go.ChangeShapes Go.WideShapes Go.ChangeAt Go.RowKit Go.Maps
theorem symKeyed : Keyed Try.prog 63 := Keyed.of_law (deep_law_laid (by kernel_rfl) (m := 3) (by omega) (of_decide_eq_true (by kernel_rfl)) (by kernel_rfl) (by kernel_rfl))

theorem keyType38 : (Try.prog).keyType 63 = true := by kernel_rfl
theorem key_some (x : Sy) (hx : x.ok) : ∃ l, keyOf Try.prog 63 (.agg #[.string x.name, .int .i64 x.arity, .bool x.pred]) = some l := by
  obtain ⟨n, a, p⟩ := x
  obtain ⟨h1, h2, h3⟩ := hx
  simp only at h1 h2 h3
  have hw : (Lit.int .i64 a).wf = true := by exact WalkArith.wf_i64 (by omega)
  have hn : n.size ≤ maxLen := by unfold maxLen; omega
  obtain ⟨d, hd⟩ : ∃ d, (Try.prog).types.size + 1 = d + 2 := ⟨(Try.prog).types.size - 1, by have : 1 ≤ (Try.prog).types.size := of_decide_eq_true (by kernel_rfl); omega⟩
  have hc : (Try.prog).cellsOf 63 = 3 := by kernel_rfl
  have hc1 : (Try.prog).cellsOf 9 = 1 := by kernel_rfl
  have hc2 : (Try.prog).cellsOf 3 = 1 := by kernel_rfl
  have hc3 : (Try.prog).cellsOf 4 = 1 := by kernel_rfl
  simp only [keyOf, Try.underlying63, keyType38, Bool.true_and, hd, Value.formed, hc, Value.cells]
  simp [Program.keyLits, Try.underlying63, Try.underlying9, Try.underlying3, Try.underlying4, hc, hc1, hc2, hc3, hw, hn]

noncomputable def klit (x : Sy) : Lit := (keyOf Try.prog 63 (.agg #[.string x.name, .int .i64 x.arity, .bool x.pred])).getD (.bool true)
theorem klit_eq {x : Sy} (hx : x.ok) : keyOf Try.prog 63 (.agg #[.string x.name, .int .i64 x.arity, .bool x.pred]) = some (klit x) := by
  obtain ⟨l, hl⟩ := key_some x hx
  unfold klit; rw [hl]; rfl
theorem klit_inj {x y : Sy} (hx : x.ok) (hy : y.ok) (h : klit x = klit y) : x.eqB y = true := by
  have := symKeyed.inj (klit_eq hx) (by rw [h]; exact klit_eq hy)
  simp only [Value.agg.injEq, Array.mk.injEq, List.cons.injEq, Value.string.injEq, Value.int.injEq, Value.bool.injEq, true_and, and_true] at this
  simp [Sy.eqB, this]
theorem eqB_eq {x y : Sy} (h : x.eqB y = true) : x = y := by
  obtain ⟨a, b, c⟩ := x
  obtain ⟨a', b', c'⟩ := y
  simp only [Sy.eqB, decide_eq_true_eq] at h
  obtain ⟨rfl, rfl, rfl⟩ := h
  rfl
theorem eqB_self (x : Sy) : x.eqB x = true := by simp [Sy.eqB]

set_option maxHeartbeats 400000 in
theorem letter_any (c : UInt8) (w : World) :
    Calls Try.prog 92 #[.int .u8 c.toNat] w fun e w' => e = .returned (.bool (letterB c)) ∧ w = w' := by
  have hc : c.toNat < 256 := c.toNat_lt
  go_enter Try.func92, Try.ntmps92
  go_wp2_with fail
  all_goals
    go_ret
    refine ⟨ret_bool ?_, rfl⟩
    unfold letterB
    rw [Bool.eq_iff_iff]
    simp
    omega

set_option maxHeartbeats 400000 in
theorem every_any (s : ByteArray) (w : World) (hs : s.size ≤ 1048576) :
    Calls Try.prog 91 #[.string s, .func (.func 92) #[] #[]] w fun e w' => e = .returned (.bool (lettersB s)) ∧ w = w' := by
  go_enter Try.func91, Try.ntmps91
  go_wp2_with fail
  go_loop [8] (fun i => ∃ k : Nat, k ≤ s.size ∧ i = .int .i64 k ∧ (s.data.toList.take k).all letterB = true) (fun i => s.size - (intOf i).toNat)
  case atStart => exact ⟨0, Nat.zero_le _, rfl, rfl⟩
  case round =>
    obtain ⟨k, hk, rfl, hall⟩ := hrel
    have Hall := Lib.hid hall; clear hall
    by_cases hlt : k < s.size
    · have Hst := Lib.hid (all_take letterB s k hlt)
      cases hl : letterB s[k] with
      | false =>
        go_wp2_with ((with_reducible refine (letter_any _ _).mono ?_); rintro e w' ⟨rfl, rfl⟩)
        go_ret
        have h1 := Hst.out
        rw [hl, Bool.and_false] at h1
        exact ⟨ret_bool (all_false _ _ _ h1).symm, rfl⟩
      | true =>
        go_wp2_with ((with_reducible refine (letter_any _ _).mono ?_); rintro e w' ⟨rfl, rfl⟩)
        go_round
        case rel => exact ⟨k + 1, by omega, by go_num, by rw [Hst.out, Hall.out, hl]; rfl⟩
        case measure => simp [intOf]; omega
    · go_wp2_with fail
      have : k = s.size := by omega
      subst this
      go_ret
      have h3 := Hall.out
      rw [List.take_of_length_le (by simp)] at h3
      exact ⟨ret_bool h3.symm, rfl⟩

set_option maxHeartbeats 400000 in
theorem named_any (s : ByteArray) (w : World) (hs : s.size ≤ 1048576) :
    Calls Try.prog 77 #[.string s] w fun e w' => e = .returned (.bool (named s)) ∧ w = w' := by
  go_enter Try.func77, Try.ntmps77
  go_wp2_with ((with_reducible refine (every_any _ _ hs).mono ?_); rintro e w' ⟨rfl, rfl⟩)
  all_goals
    go_ret
    refine ⟨ret_bool ?_, rfl⟩
    unfold named
  · have h : s.toList = [] := by assumption
    have : s.size = 0 := by rw [ByteArray.toList_eq] at h; have := congrArg List.length h; simpa using this
    simp [this]
  · have h : ¬ s.toList = [] := by assumption
    have h0 : s.size ≠ 0 := fun h0 => h (by rw [ByteArray.toList_eq]; exact List.eq_nil_of_length_eq_zero (by simpa using h0))
    have h40 : (s.size : Int) ≤ 40 := by assumption
    have : 1 ≤ s.size ∧ s.size ≤ 40 := by omega
    simp [this, h]
  · have h40 : (40 : Int) < s.size := by assumption
    have : ¬ (1 ≤ s.size ∧ s.size ≤ 40) := by omega
    simp [this]

set_option maxHeartbeats 400000 in
theorem one_any (x : Sy) (hx : x.ok) (w : World) :
    Calls Try.prog 62 #[.agg #[.string x.name, .int .i64 x.arity, .bool x.pred]] w fun e w' => e = .returned (.int .i64 x.one) ∧ Ext w w' := by
  obtain ⟨n, a, p⟩ := x
  obtain ⟨h1, h2, h3⟩ := hx
  simp only at h1 h2 h3
  go_enter Try.func62, Try.ntmps62
  go_wp2_with ((with_reducible refine (named_any _ _ h1).mono ?_); rintro e w' ⟨rfl, rfl⟩)
  all_goals
    go_ret
    refine ⟨?_, by go_grown⟩
    first
      | (have h : (!named n) = true := by assumption
         have h : named n = false := by simpa using h
         simp [Sy.one, h]; done)
      | (have h : (!named n) = false := by assumption
         have h : named n = true := by simpa using h
         simp [Sy.one, h]; omega)

set_option maxHeartbeats 400000 in
theorem truth_any (w : World) :
    Calls Try.prog 61 #[] w fun e w' => e = .returned (.agg #[.string truthName, .int .i64 0, .bool true]) ∧ Ext w w' := by
  go_enter Try.func61, Try.ntmps61
  go_wp2_with fail
  go_returns
  exact ⟨rfl, by go_grown⟩
end Go.Proofs.Ytapoedcmhdlpfaa
namespace Go.Proofs.Ytapoedcmhdlpfaa
open Go.ChangeShapes Go.WideShapes Go.ChangeAt Go.RowKit Go.Maps
theorem atSy_lower (x : Sy) (l : List Sy) (j : Nat) (h : l.any (fun y => y.eqB x) = true) : (j : Int) ≤ atSy x l j := by
  induction l generalizing j with
  | nil => simp at h
  | cons y r ih =>
    simp only [atSy]
    split
    · omega
    · rename_i hy
      have hr : r.any (fun y => y.eqB x) = true := by simpa [List.any_cons, hy] using h
      have := ih (j + 1) hr
      omega
theorem atSy_any (x : Sy) (l : List Sy) (j i : Nat) (h : l.any (fun y => y.eqB x) = true) : atSy x l j < (j : Int) + i ↔ (l.take i).any (fun y => y.eqB x) = true := by
  induction l generalizing j i with
  | nil => simp at h
  | cons y r ih =>
    cases hy : y.eqB x with
    | true =>
      simp only [atSy, hy, if_true]
      cases i with
      | zero => simp
      | succ i => simp [hy]; omega
    | false =>
      have hr : r.any (fun y => y.eqB x) = true := by simpa [List.any_cons, hy] using h
      simp only [atSy, hy, Bool.false_eq_true, if_false]
      cases i with
      | zero => have := atSy_lower x r (j + 1) hr; simp; omega
      | succ i =>
        have := ih (j + 1) i hr
        simp only [List.take_succ_cons, List.any_cons, hy, Bool.false_or]
        rw [← this]
        omega
theorem named_truth : named truthName = false := by decide +kernel
/-- is it among those that were met? -/
theorem atSy_met {l : List Sy} {k : Nat} (hk : k + 1 < l.length) (ht : l[0].eqB .truth = true) (h1 : l[k + 1].one = 0) :
    (atSy l[k + 1] l 0 < ((k + 1 : Nat) : Int)) ↔ (l.tail.take k).any (fun y => y.eqB l[k + 1]) = true := by
  have hin : l.any (fun y => y.eqB l[k + 1]) = true := List.any_eq_true.2 ⟨l[k + 1], List.getElem_mem hk, eqB_self _⟩
  have := atSy_any l[k + 1] l 0 (k + 1) hin
  rw [show ((0 : Nat) : Int) + ((k + 1 : Nat) : Int) = ((k + 1 : Nat) : Int) by omega] at this
  rw [this]
  have hne : l[0].eqB l[k + 1] = false := by
    cases he : l[0].eqB l[k + 1] with
    | false => rfl
    | true =>
      have e1 := eqB_eq he
      have e2 := eqB_eq ht
      rw [← e1, e2] at h1
      have : Sy.one .truth = 111 := by unfold Sy.one; rw [if_pos (show named Sy.truth.name = false from named_truth)]
      rw [this] at h1; cases h1
  cases l with
  | nil => simp at hk
  | cons y r =>
    simp only [List.getElem_cons_zero] at hne
    simp only [List.take_succ_cons, List.any_cons, List.tail_cons, hne, Bool.false_or]

theorem ownsMap_ext {H : Type} {w w' : World} {P : Program} {k : TypeId} {R : Value → Option (DataW H × List MemPlace)} {b n : Nat} {D : DataW H} (h : w.ownsMap P k R b n D) (hx : Ext w w') : w'.ownsMap P k R b n D := by
  have hlt := h.lt
  obtain ⟨es, clock, hb, F, hs, hD⟩ := h
  exact ⟨es, clock, (hx.block b hlt).trans hb, F, hs, hD⟩

/-- the map holds the symbols that were met -/
def Met (w : World) (b n : Nat) (l : List Sy) : Prop :=
  ∃ D : DataW Unit, IsMap D ∧ w.ownsMap Try.prog 63 (plainElem Try.prog 3) b n D ∧ ∀ x : Sy, x.ok → has D (klit x) = l.any (fun y => y.eqB x)

theorem sliceFrom (o k : Nat) : o + 3 + k * 3 = o + (k + 1) * 3 := by omega

set_option maxHeartbeats 1000000 in
set_option maxRecDepth 100000 in
theorem sigCheck_any (l : List Sy) (hl : l.length ≤ 1048576) (w : World) (a : Option Addr) (c : Nat) (hlc : l.length ≤ c) (hc63 : c ≤ 9223372036854775807) (hsy : IsSyms w a l) :
    Calls Try.prog 29 #[.agg #[.slice a l.length c]] w fun e w' => e = .returned (.int .i64 (sigCheck l)) ∧ Ext w w' := by
  by_cases hlong : 96 < l.length
  · go_enter Try.func29, Try.ntmps29
    go_wp2_with fail
    go_ret
    exact ⟨by simp [sigCheck, hlong], by go_grown⟩
  by_cases hnil : l.length = 0
  · have hd : ((l.length : Int) == 0) = true := by simp [hnil]
    go_enter Try.func29, Try.ntmps29
    go_wp2_with fail
    go_quiet (fail)
    go_wp2_with fail
    go_ret
    obtain rfl : l = [] := List.length_eq_zero_iff.1 hnil
    exact ⟨rfl, (ext_alloc _ _).drewN _⟩
  have hd : ((l.length : Int) == 0) = false := by rw [beq_eq_false_iff_ne]; omega
  have hl0 : 0 < l.length := by omega
  have hw1 : Ext w (w.alloc (.cells #[.slice a l.length c] 24)) := ext_alloc _ _
  obtain ⟨b, o, rfl, hok, g1, g2, g3⟩ := hsy.look hl0
  have g1' := hw1.cell g1
  have g2' := hw1.cell g2
  have g3' := hw1.cell g3
  simp only [Nat.zero_mul, Nat.add_zero] at g1' g2' g3'
  have hl0' : (0 : Int) < l.length := by omega
  have heq := neq_sym
  go_enter Try.func29, Try.ntmps29
  go_wp2_with fail
  go_region_held3 (fun w' => w'.cell? ⟨w.heap.size, 0, none⟩ = some (.slice (some ⟨b, o, none⟩) l.length c) ∧ w'.cell? ⟨b, o, none⟩ = some (.string l[0].name) ∧ w'.cell? ⟨b, o + 1, none⟩ = some (.int .i64 l[0].arity) ∧ w'.cell? ⟨b, o + 2, none⟩ = some (.bool l[0].pred) ∧ Ext (w.alloc (.cells #[.slice (some ⟨b, o, none⟩) l.length c] 24)) w')
    (((try go_split_ands); refine ⟨?_, ?_, ?_, ?_, ?_⟩ <;> first | (with_reducible assumption) | exact Below.drew (Below.refl _ _) | exact Ext.drew (by assumption) | exact Ext.drew (ext_alloc _ _) | (apply Ext.cell hw'; (with_reducible assumption)) | exact Ext.trans (by assumption) hw' | exact Ext.frozen hw' (by (with_reducible assumption)) (by (with_reducible assumption)) | (go_keep; done)))
    ((go_at_call 61; refine (truth_any _).mono ?_; rintro e w' ⟨rfl, hw'⟩))
  go_split_ands
  have hx2 : Ext w w' := Ext.trans hw1 ‹_›
  have c0 : w'.cell? ⟨w.heap.size, 0, none⟩ = some (.slice (some ⟨b, o, none⟩) l.length c) := by assumption
  clear g1 g2 g3 g1' g2' g3' hw1 hw'
  have hsy2 := hsy.ext hx2
  have hl3 : (l.length : Int) ≤ 96 := by omega
  have hmm := @run_makeMap Try.prog
  cases ht : Sy.eqB ⟨l[0].name, l[0].arity, l[0].pred⟩ ⟨truthName, 0, true⟩ with
  | false =>
    go_wp2_with fail
    go_ret
    refine ⟨ret_int ?_, hx2⟩
    exact (sigCheck_bad hl0 hlong ht).symm
  | true =>
    simp only [Bool.not_true]
    have Hspec := Lib.hid (sigCheck_good hl0 hlong ht)
    have hl1 : 1 ≤ l.length := hl0
    have c1 := (ext_alloc w' (.map #[] 0)).cell c0
    have hsy3 := hsy2.ext (ext_alloc w' (.map #[] 0))
    have hown0 := World.ownsMap_made (H := Unit) w' Try.prog 63 (plainElem Try.prog 3)
    clear heq c0
    have ht : l[0].eqB .truth = true := ht
    by_cases hc1 : c = 1
    · go_wp2_with fail
      go_loopw [32] (fun i wr => i = .int .i64 0 ∧ Ext w' wr) (fun _ _ => 0)
      case atStart => exact ⟨rfl, ext_alloc _ _⟩
      case round =>
        obtain ⟨rfl, hext⟩ := hrel
        have hle : ¬ (0 : Nat) < l.length - 1 := by omega
        have hle' : ¬ (0 : Int) < ((l.length - 1 : Nat) : Int) := by omega
        go_wp2_with fail
        go_ret
        refine ⟨ret_int ?_, Ext.trans hx2 hext⟩
        rw [Hspec.out]
        have : l.length = 1 := by omega
        have : l.tail = [] := List.eq_nil_of_length_eq_zero (by simp; omega)
        rw [this]; rfl
    · go_wp2_with fail
      go_loopw [32] (fun i wr => ∃ k : Nat, k + 1 ≤ l.length ∧ i = .int .i64 k ∧ ckRef l l.tail 1 = ckRef l (l.drop (k + 1)) (k + 1) ∧ Ext w' wr ∧ Met wr w'.heap.size k (l.tail.take k)) (fun i _ => l.length - (intOf i).toNat)
      case atStart => exact ⟨0, hl1, rfl, by rw [Nat.zero_add, List.drop_one], ext_alloc _ _, .map [], ⟨[], rfl⟩, hown0, fun x _ => rfl⟩
      case round =>
        obtain ⟨k, hk, rfl, hck, hext, hmet⟩ := hrel
        have Hck := Lib.hid hck; clear hck
        by_cases hlt : k + 1 < l.length
        · obtain ⟨b', o', hbo, hok, g1, g2, g3⟩ := (hsy2.ext hext).look hlt
          obtain ⟨rfl, rfl⟩ : b = b' ∧ o = o' := by simpa using hbo
          rw [← sliceFrom] at g1 g2 g3
          have Hst := Lib.hid (ckRef_step hlt)
          have Hat := Lib.hid (atSy_met hlt ht)
          clear hbo hown0 c1
          generalize hx : l[k + 1] = x at g1 g2 g3 hok Hst Hat
          have Hx := Lib.hid hx; clear hx
          obtain ⟨n, ar, p⟩ := x
          obtain ⟨e1, e2, e3⟩ := cells3 wr (.string n) (.int .i64 ar) (.bool p) 63
          cases hz : (Sy.one ⟨n, ar, p⟩ != 0) with
          | true =>
            have hone := one_cases ⟨n, ar, p⟩
            go_wp2_with ((with_reducible refine (one_any ⟨n, ar, p⟩ hok _).mono ?_); rintro e w2 ⟨rfl, hwo⟩)
            go_ret
            refine ⟨ret_int ?_, Ext.trans (Ext.trans hx2 hext) (Ext.trans (ext_alloc _ _) hwo)⟩
            rw [Hspec.out, Hck.out, Hst.out, if_pos (by simpa using hz)]
          | false =>
            have hz0 : Sy.one ⟨n, ar, p⟩ = 0 := by simpa using hz
            have Hz0 := Lib.hid hz0; clear hz0
            obtain ⟨D, hD, hown, hhas⟩ := hmet
            have Hhas := Lib.hid hhas; clear hhas
            have hkl := klit_eq hok
            cases hm : has D (klit ⟨n, ar, p⟩) with
            | true =>
              go_wp2_with (first
                | ((with_reducible refine (one_any ⟨n, ar, p⟩ hok _).mono ?_); rintro e w2 ⟨rfl, hwo⟩; replace e1 := hwo.cell e1; replace e2 := hwo.cell e2; replace e3 := hwo.cell e3; replace hown := ownsMap_ext (ownsMap_ext hown (ext_alloc _ _)) hwo)
                | (at_lookup; refine wpList_lookup_own_ok_int _ rfl _ _ 94 rfl 63 3 .i64 symKeyed Try.underlying94 Try.underlying3 (by kernel_rfl) _ k D rfl hown _ (klit ⟨n, ar, p⟩) rfl hkl ?_; intro cc hat hwc; clear hat hwc))
              go_ret
              refine ⟨ret_int ?_, Ext.trans (Ext.trans hx2 hext) (Ext.trans (ext_alloc _ _) hwo)⟩
              have hin := (Hat.out Hz0.out).2 ((Hhas.out _ hok).symm.trans hm)
              rw [Hspec.out, Hck.out, Hst.out, if_neg (by simp [Hz0.out]), if_pos hin]
            | false =>
              go_wp2_with (first
                | ((with_reducible refine (one_any ⟨n, ar, p⟩ hok _).mono ?_); rintro e w2 ⟨rfl, hwo⟩; replace e1 := hwo.cell e1; replace e2 := hwo.cell e2; replace e3 := hwo.cell e3; replace hown := ownsMap_ext (ownsMap_ext hown (ext_alloc _ _)) hwo)
                | (at_lookup; refine wpList_lookup_own_ok_int _ rfl _ _ 94 rfl 63 3 .i64 symKeyed Try.underlying94 Try.underlying3 (by kernel_rfl) _ k D rfl hown _ (klit ⟨n, ar, p⟩) rfl hkl ?_; intro cc hat hwc; clear hat hwc)
                | (at_mapUpdate; refine wpList_mapUpdate_own _ rfl _ _ _ 94 rfl 63 3 symKeyed Try.underlying94 (plainElem Try.prog 3) _ k D rfl hown (by unfold maxLen; omega) _ _ (klit ⟨n, ar, p⟩) rfl rfl hkl (.lit (.int .i64 k)) [] (plainElem_int Try.underlying3 (WalkArith.wf_i64 (by omega))) ?_; intro w3 hown3 hgrow3))
              have hin : ¬ (atSy ⟨n, ar, p⟩ l 0 < ((k + 1 : Nat) : Int)) := fun h => by
                have := (Hat.out Hz0.out).1 h
                rw [← Hhas.out _ hok, hm] at this; cases this
              have hx4 : Ext w' w2 := Ext.trans hext (Ext.trans (ext_alloc _ _) hwo)
              have hlt' : k < l.tail.length := by simp; omega
              go_roundw
              case rel =>
                refine ⟨k + 1, by omega, by go_num, by rw [Hck.out, Hst.out, if_neg (by simp [Hz0.out]), if_neg hin], Below.grown hx4 hgrow3 hx4.size (fun i hi => by cases hi; exact Nat.le_refl _), _, hD.put _ _, hown3, fun x hx => ?_⟩
                rw [List.take_succ_eq_append_getElem hlt', List.any_append, ← Hhas.out x hx]
                have ey : l.tail[k] = (⟨n, ar, p⟩ : Sy) := by rw [List.getElem_tail]; exact Hx.out
                simp only [List.any_cons, List.any_nil, Bool.or_false, ey]
                cases he : Sy.eqB ⟨n, ar, p⟩ x with
                | true =>
                  have := eqB_eq he
                  subst this
                  rw [has_put_same hD (symKeyed.key hkl), Bool.or_true]
                | false =>
                  rw [has_put_other (fun h => by rw [klit_inj hok hx h.symm] at he; cases he), Bool.or_false]
              case measure => simp [intOf]; omega
        · go_wp2_with fail
          have : k + 1 = l.length := by omega
          go_ret
          refine ⟨ret_int ?_, Ext.trans hx2 hext⟩
          rw [Hspec.out, Hck.out, this, List.drop_length]; rfl
end Go.Proofs.Ytapoedcmhdlpfaa
