/- What the reference's At and Check of layer 1 return, for every signature that lies in memory. -/
import Derived.Test.YtapoedcmhdlpfaaQ0
import Derived.Deep.RegionHeld3
namespace Go.Proofs.Ytapoedcmhdlpfaa
open Go.ChangeShapes Go.WideShapes Go.ChangeAt Go.RowKit
/-- the three cells of a symbol, in a slice -/
theorem IsSyms.look {w : World} {a : Option Addr} {l : List Sy} (h : IsSyms w a l) {i : Nat} (hi : i < l.length) :
    ∃ b o, a = some ⟨b, o, none⟩ ∧ Sy.ok l[i] ∧ w.cell? ⟨b, o + i * 3, none⟩ = some (.string l[i].name) ∧ w.cell? ⟨b, o + i * 3 + 1, none⟩ = some (.int .i64 l[i].arity) ∧ w.cell? ⟨b, o + i * 3 + 2, none⟩ = some (.bool l[i].pred) := by
  obtain ⟨h0, b, o, h1, h2, h3, h4⟩ := h i hi
  exact ⟨b, o, h1, h0, h2, h3, h4⟩

theorem cells3 (w : World) (x y z : Value) (t : TypeId) : (w.alloc (.cells #[x, y, z] t)).cell? ⟨w.heap.size, 0, none⟩ = some x ∧ (w.alloc (.cells #[x, y, z] t)).cell? ⟨w.heap.size, 1, none⟩ = some y ∧ (w.alloc (.cells #[x, y, z] t)).cell? ⟨w.heap.size, 2, none⟩ = some z := by
  refine ⟨?_, ?_, ?_⟩ <;> go_simp

theorem atSy_step {x : Sy} {l : List Sy} {k : Nat} (h : k < l.length) : atSy x (l.drop k) k = if l[k].eqB x then (k : Int) else atSy x (l.drop (k + 1)) (k + 1) := by
  rw [List.drop_eq_getElem_cons h]; rfl

set_option maxHeartbeats 400000 in
theorem refAt_any (x : Sy) (hx : x.ok) (l : List Sy) (hl : l.length ≤ 1048576) (w : World) (a : Option Addr) (c : Nat) (hsy : IsSyms w a l) :
    Calls Try.prog 65 #[.slice a l.length c, .agg #[.string x.name, .int .i64 x.arity, .bool x.pred]] w fun e w' => e = .returned (.int .i64 (atSy x l 0)) ∧ Ext w w' := by
  obtain ⟨n, ar, p⟩ := x
  obtain ⟨h1, h2, h3⟩ := hx
  simp only at h1 h2 h3
  obtain ⟨hn, ha, hp⟩ := cells3 w (.string n) (.int .i64 ar) (.bool p) 63
  have heq := eql_sym
  go_enter Try.func65, Try.ntmps65
  go_wp2_with fail
  go_loopw [5] (fun i wr => ∃ k : Nat, k ≤ l.length ∧ i = .int .i64 k ∧ atSy ⟨n, ar, p⟩ l 0 = atSy ⟨n, ar, p⟩ (l.drop k) k ∧ Ext (w.alloc (.cells #[.string n, .int .i64 ar, .bool p] 63)) wr) (fun i _ => l.length - (intOf i).toNat)
  case atStart => exact ⟨0, Nat.zero_le _, rfl, rfl, Below.refl _ _⟩
  case round =>
    obtain ⟨k, hk, rfl, hat, hext⟩ := hrel
    have Hat := Lib.hid hat; clear hat
    have gn := hext.cell hn
    have ga := hext.cell ha
    have gp := hext.cell hp
    clear hn ha hp
    by_cases hlt : k < l.length
    · obtain ⟨b, o, rfl, hok, g1, g2, g3⟩ := (hsy.ext (Ext.trans (ext_alloc _ _) hext)).look hlt
      have Hst := Lib.hid (atSy_step (x := ⟨n, ar, p⟩) hlt)
      have hki : (k : Int) < (l.length : Int) := by omega
      go_wp2_with fail
      go_quiet (fail)
      go_wp2_with fail
      · go_ret
        have hq : Sy.eqB ⟨l[k].name, l[k].arity, l[k].pred⟩ ⟨n, ar, p⟩ = true := by assumption
        refine ⟨?_, Ext.trans (ext_alloc _ _) (hext.drewN _)⟩
        exact ret_int (by rw [Hat.out, Hst.out, if_pos hq])
      · have hq : Sy.eqB ⟨l[k].name, l[k].arity, l[k].pred⟩ ⟨n, ar, p⟩ = false := by assumption
        have hq2 : ¬ (l[k].eqB ⟨n, ar, p⟩ = true) := by rw [show l[k].eqB ⟨n, ar, p⟩ = false from hq]; simp
        clear hq
        go_roundw
        case rel => exact ⟨k + 1, by omega, by go_num, by rw [Hat.out, Hst.out, if_neg hq2], hext.drewN _⟩
        case measure => simp [intOf]; omega
    · go_wp2_with fail
      have : k = l.length := by omega
      subst this
      go_ret
      have := Hat.out
      rw [List.drop_length] at this
      exact ⟨by rw [this]; rfl, Ext.trans (ext_alloc _ _) hext⟩

/-- the first fault of symbols, each held against all ahead of it -/
def ckRef (l : List Sy) : List Sy → Nat → Int
  | [], _ => 0
  | x :: r, i => if x.one ≠ 0 then x.one else if atSy x l 0 < i then 113 else ckRef l r (i + 1)
/-- the first fault of a signature; 0 -/
def sigCheck (l : List Sy) : Int :=
  if 96 < l.length then 3 else match l with
    | [] => 110
    | t :: r => if t.eqB .truth then ckRef l r 1 else 110

theorem ckRef_step {l : List Sy} {k : Nat} (h : k < l.length) : ckRef l (l.drop k) k = if l[k].one ≠ 0 then l[k].one else if atSy l[k] l 0 < k then 113 else ckRef l (l.drop (k + 1)) (k + 1) := by
  rw [List.drop_eq_getElem_cons h]; rfl

/-- '!=' between symbols -/
theorem neq_sym (w : World) (n n' : ByteArray) (a a' : Int) (p p' : Bool) :
    (binOp .neq 63 (.agg #[.string n, .int .i64 a, .bool p]) (.agg #[.string n', .int .i64 a', .bool p'])).run Try.prog w = .ok (.bool (!Sy.eqB ⟨n, a, p⟩ ⟨n', a', p'⟩)) w := by
  have h := eql_sym w n n' a a' p p'
  rw [run_eql_struct] at h
  rw [run_neq_struct]
  cases hr : (Op.equalIn 10000 63 (.agg #[.string n, .int .i64 a, .bool p]) (.agg #[.string n', .int .i64 a', .bool p'])).run Try.prog w with
  | ok b w1 => rw [hr] at h; simp only [Result.andThen_ok, Result.ok.injEq, Value.bool.injEq] at h ⊢; obtain ⟨rfl, rfl⟩ := h; exact ⟨rfl, rfl⟩
  | halt x w1 => rw [hr] at h; simp [Result.andThen] at h

theorem one_cases (x : Sy) : x.one = 0 ∨ x.one = 111 ∨ x.one = 112 := by
  unfold Sy.one; split
  · simp
  · split <;> simp
theorem atSy_range (x : Sy) (l : List Sy) (k : Nat) : -1 ≤ atSy x l k ∧ atSy x l k < (l.length : Int) + k := by
  induction l generalizing k with
  | nil => simp [atSy]; omega
  | cons y r ih =>
    simp only [atSy]
    split
    · simp; omega
    · have := ih (k + 1); simp; omega

theorem sigCheck_bad {l : List Sy} (h0 : 0 < l.length) (hl : ¬ 96 < l.length) (ht : l[0].eqB .truth = false) : sigCheck l = 110 := by
  cases l with
  | nil => simp at h0
  | cons t r =>
    unfold sigCheck
    rw [if_neg hl]
    simp only [List.getElem_cons_zero] at ht
    simp [ht]
theorem sigCheck_good {l : List Sy} (h0 : 0 < l.length) (hl : ¬ 96 < l.length) (ht : l[0].eqB .truth = true) : sigCheck l = ckRef l l.tail 1 := by
  cases l with
  | nil => simp at h0
  | cons t r =>
    unfold sigCheck
    rw [if_neg hl]
    simp only [List.getElem_cons_zero] at ht
    simp [ht]

set_option maxHeartbeats 400000 in
theorem refSigCheck_any (l : List Sy) (hl : l.length ≤ 1048576) (w : World) (a : Option Addr) (c : Nat) (hsy : IsSyms w a l) :
    Calls Try.prog 34 #[.agg #[.slice a l.length c]] w fun e w' => e = .returned (.int .i64 (sigCheck l)) ∧ Ext w w' := by
  by_cases hlong : 96 < l.length
  · go_enter Try.func34, Try.ntmps34
    go_wp2_with fail
    go_ret
    exact ⟨by simp [sigCheck, hlong], by go_grown⟩
  by_cases hnil : l.length = 0
  · go_enter Try.func34, Try.ntmps34
    go_wp2_with fail
    have hd : ((l.length : Int) == 0) = true := by simp [hnil]
    go_quiet (fail)
    go_wp2_with fail
    go_ret
    obtain rfl : l = [] := List.length_eq_zero_iff.1 hnil
    exact ⟨rfl, (ext_alloc _ _).drewN _⟩
  have hd : ((l.length : Int) == 0) = false := by rw [beq_eq_false_iff_ne]; omega
  have hl0 : 0 < l.length := by omega
  have hw1 : Ext w (w.alloc (.cells #[.slice a l.length c] 24)) := ext_alloc _ _
  obtain ⟨b, o, rfl, hok, g1, g2, g3⟩ := hsy.look hl0
  have g1' := hw1.cell g1
  have g2' := hw1.cell g2
  have g3' := hw1.cell g3
  simp only [Nat.zero_mul, Nat.add_zero] at g1' g2' g3'
  have hl0' : (0 : Int) < l.length := by omega
  have heq := neq_sym
  go_enter Try.func34, Try.ntmps34
  go_wp2_with fail
  go_region_held3 (fun w' => w'.cell? ⟨w.heap.size, 0, none⟩ = some (.slice (some ⟨b, o, none⟩) l.length c) ∧ w'.cell? ⟨b, o, none⟩ = some (.string l[0].name) ∧ w'.cell? ⟨b, o + 1, none⟩ = some (.int .i64 l[0].arity) ∧ w'.cell? ⟨b, o + 2, none⟩ = some (.bool l[0].pred) ∧ Ext (w.alloc (.cells #[.slice (some ⟨b, o, none⟩) l.length c] 24)) w')
    (((try go_split_ands); refine ⟨?_, ?_, ?_, ?_, ?_⟩ <;> first | (with_reducible assumption) | exact Below.drew (Below.refl _ _) | exact Ext.drew (by assumption) | exact Ext.drew (ext_alloc _ _) | (apply Ext.cell hw'; (with_reducible assumption)) | exact Ext.trans (by assumption) hw' | exact Ext.frozen hw' (by (with_reducible assumption)) (by (with_reducible assumption)) | (go_keep; done)))
    ((go_at_call 37; refine (refTruth_any _).mono ?_; rintro e w' ⟨rfl, hw'⟩))
  go_split_ands
  have hx2 : Ext w w' := Ext.trans hw1 ‹_›
  have c0 : w'.cell? ⟨w.heap.size, 0, none⟩ = some (.slice (some ⟨b, o, none⟩) l.length c) := by assumption
  clear g1 g2 g3 g1' g2' g3' hw1 hw'
  have hsy2 := hsy.ext hx2
  have hl3 : (l.length : Int) ≤ 96 := by omega
  cases ht : Sy.eqB ⟨l[0].name, l[0].arity, l[0].pred⟩ ⟨truthName, 0, true⟩ with
  | false =>
    go_wp2_with fail
    go_ret
    refine ⟨ret_int ?_, hx2⟩
    exact (sigCheck_bad hl0 hlong ht).symm
  | true =>
    have hspec : sigCheck l = ckRef l l.tail 1 := sigCheck_good hl0 hlong ht
    have Hspec := Lib.hid hspec; clear hspec
    go_wp2_with fail
    clear heq ht
    go_loopw [3] (fun i wr => ∃ k : Nat, 1 ≤ k ∧ k ≤ l.length ∧ i = .int .i64 k ∧ ckRef l l.tail 1 = ckRef l (l.drop k) k ∧ Ext w' wr) (fun i _ => l.length - (intOf i).toNat)
    case atStart => exact ⟨1, Nat.le_refl _, hl0, rfl, by rw [List.drop_one], Below.refl _ _⟩
    case round =>
      obtain ⟨k, hk1, hk, rfl, hck, hext⟩ := hrel
      have Hck := Lib.hid hck; clear hck
      have c0 := hext.cell c0
      by_cases hlt : k < l.length
      · obtain ⟨b', o', hbo, hok, g1, g2, g3⟩ := (hsy2.ext hext).look hlt
        obtain ⟨rfl, rfl⟩ : b = b' ∧ o = o' := by simpa using hbo
        have Hst := Lib.hid (ckRef_step hlt)
        have hki : (k : Int) < (l.length : Int) := by omega
        have hk0 : (0 : Int) ≤ k := by omega
        generalize hx : l[k] = x at g1 g2 g3 hok Hst
        obtain ⟨n, ar, p⟩ := x
        have Hx := Lib.hid hx; clear hx
        have hone := one_cases ⟨n, ar, p⟩
        cases hz : (Sy.one ⟨n, ar, p⟩ != 0) with
        | true =>
          go_wp2_with ((with_reducible refine (refOne_any ⟨n, ar, p⟩ hok _).mono ?_); rintro e w'' ⟨rfl, hwo⟩)
          go_ret
          refine ⟨ret_int ?_, Ext.trans (Ext.trans hx2 hext) hwo⟩
          rw [Hspec.out, Hck.out, Hst.out, if_pos (by simpa using hz)]
        | false =>
          go_wp2_with ((with_reducible refine (refOne_any ⟨n, ar, p⟩ hok _).mono ?_); rintro e w'' ⟨rfl, hwo⟩)
          have d0 := hwo.cell c0
          have d1 := hwo.cell g1
          have d2 := hwo.cell g2
          have d3 := hwo.cell g3
          go_region_held3 (fun w' => w'.cell? ⟨w.heap.size, 0, none⟩ = some (.slice (some ⟨b, o, none⟩) l.length c) ∧ w'.cell? ⟨b, o + k * 3, none⟩ = some (.string n) ∧ w'.cell? ⟨b, o + k * 3 + 1, none⟩ = some (.int .i64 ar) ∧ w'.cell? ⟨b, o + k * 3 + 2, none⟩ = some (.bool p) ∧ Ext w'' w')
            (((try go_split_ands); refine ⟨?_, ?_, ?_, ?_, ?_⟩ <;> first | (with_reducible assumption) | exact Below.drew (Below.refl _ _) | exact Ext.drew (by assumption) | exact Ext.drew (ext_alloc _ _) | (apply Ext.cell hw'; (with_reducible assumption)) | exact Ext.trans (by assumption) hw' | exact Ext.frozen hw' (by (with_reducible assumption)) (by (with_reducible assumption)) | (go_keep; done)))
            ((go_at_call 65; go_split_ands; refine (refAt_any ⟨n, ar, p⟩ hok l hl _ _ c (hsy2.ext (Ext.trans hext (Ext.trans hwo (by assumption))))).mono ?_; rintro e w' ⟨rfl, hw'⟩))
          go_split_ands
          have hx3 : Ext w'' w' := by assumption
          have e0 : w'.cell? ⟨w.heap.size, 0, none⟩ = some (.slice (some ⟨b, o, none⟩) l.length c) := by assumption
          clear g1 g2 g3 d0 d1 d2 d3
          have har := atSy_range ⟨n, ar, p⟩ l 0
          by_cases hat : atSy ⟨n, ar, p⟩ l 0 < (k : Int)
          · go_wp2_with fail
            go_ret
            refine ⟨ret_int ?_, Ext.trans (Ext.trans hx2 hext) (Ext.trans hwo hx3)⟩
            rw [Hspec.out, Hck.out, Hst.out, if_neg (by simpa using hz), if_pos hat]
          · go_wp2_with fail
            go_roundw
            case rel => exact ⟨k + 1, by omega, by omega, by go_num, by rw [Hck.out, Hst.out, if_neg (by simpa using hz), if_neg (by omega)], Ext.trans hext (Ext.trans hwo hx3)⟩
            case measure => simp [intOf]; omega
      · go_wp2_with fail
        have : k = l.length := by omega
        subst this
        go_ret
        refine ⟨ret_int ?_, Ext.trans hx2 hext⟩
        rw [Hspec.out, Hck.out, List.drop_length]; rfl
end Go.Proofs.Ytapoedcmhdlpfaa
