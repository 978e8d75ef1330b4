/- The comparisons by which symbols rise: each function value, whatever it has captured. Conditions: symbols and numbers are there.
Comparisons put together; the ways by which symbols rise. Conditions: symbols and numbers are there.
slices.SortFunc over the symbols' numbers, by a way. Conditions: the row is the call's own; lengths fit. -/
import Derived.Test.YtdmiphdohfcbeaaPrecO
import Derived.Test.YtdmiphdohfcbeaaShelf
import Derived.Test.YtdmiphdohfcbeaaExtRegion
import Derived.WalkSpells
namespace Go.Proofs.Ytdmiphdohfcbeaa
open Go.ChangeShapes Go.WideShapes Go.ChangeAt Go.RowKit

/-- a world with more in it, at least as many draws made -/
structure Gx (w w' : World) : Prop where
  ext : Ext w w'
  drawn : w.drawn ≤ w'.drawn
theorem Gx.refl (w : World) : Gx w w := ⟨Below.refl _ _, Nat.le_refl _⟩
theorem Gx.trans {a b c : World} (h : Gx a b) (k : Gx b c) : Gx a c := ⟨h.ext.trans k.ext, Nat.le_trans h.drawn k.drawn⟩
theorem Gx.alloc {a b : World} (h : Gx a b) (o : Obj) : Gx a (b.alloc o) := ⟨h.ext.alloc o, h.drawn⟩
theorem Gx.drew {a b : World} (h : Gx a b) : Gx a b.drew := ⟨h.ext.drew, Nat.le_succ_of_le h.drawn⟩
theorem Gx.drewN {a b : World} (h : Gx a b) (n : Nat) : Gx a (b.drewN n) := ⟨h.ext.drewN n, Nat.le_trans h.drawn (by simp [World.drewN])⟩
theorem Gx.grow {w w' : World} (h : Gx w w') : ∃ q os, w' = Go.Sort.grow (w.drewN q) os := by
  obtain ⟨⟨h1, h2, h3, h4, h5⟩, h6⟩ := h
  refine ⟨w'.drawn - w.drawn, w'.heap.extract w.heap.size w'.heap.size, ?_⟩
  cases w' with
  | mk heap tape drawn os output =>
    simp only at h1 h2 h3 h4 h5 h6
    subst h1; subst h2; subst h3
    simp only [Go.Sort.grow, World.drewN]
    congr 1
    · apply Array.ext
      · simp; omega
      · intro i hi1 hi2
        rcases Nat.lt_or_ge i w.heap.size with h | h
        · rw [Array.getElem_append_left h]
          have := h5 i h
          rw [Array.getElem?_eq_getElem hi1, Array.getElem?_eq_getElem h] at this
          injection this
        · rw [Array.getElem_append_right h]
          simp only [Array.getElem_extract]
          congr 1
          omega
    · omega

/-- the first of comparisons that tells two apart -/
def firstNZ : List (Nat → Nat → Int) → Nat → Nat → Int
  | [], _, _ => 0
  | c :: r, i, j => if c i j ≠ 0 then c i j else firstNZ r i j
theorem firstNZ_drop {cs : List (Nat → Nat → Int)} {k : Nat} (h : k < cs.length) (i j : Nat) : firstNZ (cs.drop k) i j = if cs[k] i j ≠ 0 then cs[k] i j else firstNZ (cs.drop (k + 1)) i j := by
  rw [List.drop_eq_getElem_cons h]; rfl
/-- all cells but those of block r are as they were -/
def KeepB (r : Nat) (W0 W : World) : Prop := ∀ p v, W0.cell? p = some v → p.block ≠ r → W.cell? p = some v
theorem KeepB.refl (r : Nat) (W : World) : KeepB r W W := fun _ _ h _ => h
theorem KeepB.gx {r : Nat} {W0 W W' : World} (h : KeepB r W0 W) (k : Gx W W') : KeepB r W0 W' := fun p v hp hb => k.ext.cell (h p v hp hb)
theorem KeepB.pre {r : Nat} {W0 W W' : World} (h : Ext W0 W) (k : KeepB r W W') : KeepB r W0 W' := fun p v hp hb => k p v (h.cell hp) hb
/-- what lies in wd lies in W, beside block r -/
def Dat (r : Nat) (wd W : World) : Prop := ∀ p v, wd.cell? p = some v → W.cell? p = some v ∧ p.block ≠ r
theorem Dat.ext {r : Nat} {wd W W' : World} (h : Dat r wd W) (k : Ext W W') : Dat r wd W' := fun p v hp => ⟨k.cell (h p v hp).1, (h p v hp).2⟩
theorem Dat.get {r : Nat} {wd W0 W : World} (h : Dat r wd W0) (k : KeepB r W0 W) {p : Addr} {v : Value} (hp : wd.cell? p = some v) : W.cell? p = some v := k p v (h p v hp).1 (h p v hp).2
/-- a function value that compares symbols, in whatever world has come of W0, but for block r -/
def CmpOK (r : Nat) (W0 : World) (n : Nat) (fv : Value) (cf : Nat → Nat → Int) : Prop :=
  ∃ g cb, fv = .func (.func g) #[] cb ∧ (∀ (args : Array Value) (w : World), (callFunc g args).run Try.prog w = .ok (.enter g args) w) ∧
    ∀ W, KeepB r W0 W → ∀ i j, i < n → j < n → Calls Try.prog g (#[.int .i64 (i : Nat), .int .i64 (j : Nat)] ++ cb) W fun e w' => e = .returned (.int .i64 (cf i j)) ∧ Gx W w'
theorem CmpOK.later {r : Nat} {W0 W1 : World} {n : Nat} {fv : Value} {cf : Nat → Nat → Int} (h : CmpOK r W0 n fv cf) (hx : Ext W0 W1) : CmpOK r W1 n fv cf := by
  obtain ⟨g, cb, h1, h2, h3⟩ := h
  exact ⟨g, cb, h1, h2, fun W hW => h3 W (hW.pre hx)⟩

def cNumber (i j : Nat) : Int := Lib.compareInt i j
def cArity (l : List Sy) (i j : Nat) : Int := Lib.compareInt (arOf l i) (arOf l j)
def cUnary (l : List Sy) (i j : Nat) : Int := (if arOf l i = 1 then 1 else 0) - (if arOf l j = 1 then 1 else 0)
def cOften (ns : List Int) (i j : Nat) : Int := Lib.compareInt ((ns[i]?).getD 0) ((ns[j]?).getD 0)
def cSeldom (ns : List Int) (i j : Nat) : Int := Lib.compareInt ((ns[j]?).getD 0) ((ns[i]?).getD 0)
def wayOf (l : List Sy) (ns : List Int) (p : Nat) : Nat → Nat → Int :=
  firstNZ (if p = 0 then [cNumber] else if p = 1 then [cArity l, cNumber] else if p = 2 then [cUnary l, cArity l, cNumber] else if p = 3 then [cOften ns, cNumber] else [cSeldom ns, cNumber])

set_option maxHeartbeats 400000 in
set_option maxRecDepth 100000 in
theorem number_ok (r : Nat) (W0 : World) (n : Nat) (hn : n ≤ 1048576) : CmpOK r W0 n (.func (.func 47) #[] #[]) cNumber := by
  refine ⟨_, _, rfl, fun _ _ => rfl, fun W _ i j hi hj => ?_⟩
  have hc := Try.cmp_Compare_int (i : Nat) (j : Nat) W
  change Calls Try.prog 48 _ _ _ at hc
  unfold cNumber
  generalize Lib.compareInt (i : Nat) (j : Nat) = r at hc ⊢
  have HC := Lib.hid hc; clear hc
  go_enter Try.func47, Try.ntmps47
  go_wp2_with (go_at_call 48; refine (HC.out).mono ?_; rintro e w' ⟨rfl, rfl⟩)
  go_ret
  exact ⟨rfl, Gx.refl _⟩

set_option maxHeartbeats 1000000 in
set_option maxRecDepth 100000 in
theorem arity_ok (r0 : Nat) (wd W0 : World) (l : List Sy) (hl : l.length ≤ 1048576) (b : Nat) (a : Option Addr) (c : Nat) (hb : W0.cell? ⟨b, 0, none⟩ = some (.slice a l.length c)) (hbr : b ≠ r0) (hsy : IsSyms wd a l) (hd : Dat r0 wd W0) : CmpOK r0 W0 l.length (.func (.func 49) #[] #[.pointer (some ⟨b, 0, none⟩)]) (cArity l) := by
  refine ⟨_, _, rfl, fun _ _ => rfl, fun W hW i j hi hj => ?_⟩
  have hb' := hW _ _ hb hbr
  obtain ⟨sb, so, rfl, -, -, g1, -⟩ := hsy.look hi
  obtain ⟨sb', so', e, -, -, g2, -⟩ := hsy.look hj
  injection e with e
  injection e with e1 e2 e3
  subst e1; subst e2
  clear e3
  replace g1 := hd.get hW g1
  replace g2 := hd.get hW g2
  have hi1 : (i : Int) < l.length := by omega
  have hj1 : (j : Int) < l.length := by omega
  unfold cArity
  rw [arOf_eq hi, arOf_eq hj]
  have hc := fun w' => Try.cmp_Compare_int l[i].arity l[j].arity w'
  change ∀ w', Calls Try.prog 48 _ _ _ at hc
  generalize Lib.compareInt l[i].arity l[j].arity = r at hc ⊢
  generalize l[i].arity = p at g1 hc
  generalize l[j].arity = q at g2 hc
  have HC := Lib.hid hc; clear hc
  clear hsy hb
  go_enter Try.func49, Try.ntmps49
  go_wp2_with fail
  go_quiet ((go_at_call 48; exact Calls.quiet_of_same (HC.out _)))
  go_wp2_with fail
  go_ret
  exact ⟨rfl, (Gx.refl _).drewN _⟩

set_option maxHeartbeats 1000000 in
set_option maxRecDepth 100000 in
theorem unary_ok (r0 : Nat) (wd W0 : World) (l : List Sy) (hl : l.length ≤ 1048576) (b : Nat) (a : Option Addr) (c : Nat) (hb : W0.cell? ⟨b, 0, none⟩ = some (.slice a l.length c)) (hbr : b ≠ r0) (hsy : IsSyms wd a l) (hd : Dat r0 wd W0) : CmpOK r0 W0 l.length (.func (.func 50) #[] #[.pointer (some ⟨b, 0, none⟩)]) (cUnary l) := by
  refine ⟨_, _, rfl, fun _ _ => rfl, fun W hW i j hi hj => ?_⟩
  have hb' := hW _ _ hb hbr
  obtain ⟨sb, so, rfl, -, -, g1, -⟩ := hsy.look hi
  obtain ⟨sb', so', e, -, -, g2, -⟩ := hsy.look hj
  injection e with e
  injection e with e1 e2 e3
  subst e1; subst e2
  clear e3
  replace g1 := hd.get hW g1
  replace g2 := hd.get hW g2
  have hi1 : (i : Int) < l.length := by omega
  have hj1 : (j : Int) < l.length := by omega
  unfold cUnary
  rw [arOf_eq hi, arOf_eq hj]
  generalize l[i].arity = p at g1 ⊢
  generalize l[j].arity = q at g2 ⊢
  clear hsy hb
  by_cases hp : p = 1 <;> by_cases hq : q = 1
  · have e1 : (p == 1) = true := by simpa using hp
    have e2 : (q == 1) = true := by simpa using hq
    rw [if_pos hp, if_pos hq]
    clear hp hq
    go_enter Try.func50, Try.ntmps50
    go_wp2_with fail
    go_ret
    exact ⟨rfl, Gx.refl _⟩
  · have e1 : (p == 1) = true := by simpa using hp
    have e2 : (q == 1) = false := by simpa using hq
    rw [if_pos hp, if_neg hq]
    clear hp hq
    go_enter Try.func50, Try.ntmps50
    go_wp2_with fail
    go_ret
    exact ⟨rfl, Gx.refl _⟩
  · have e1 : (p == 1) = false := by simpa using hp
    have e2 : (q == 1) = true := by simpa using hq
    rw [if_neg hp, if_pos hq]
    clear hp hq
    go_enter Try.func50, Try.ntmps50
    go_wp2_with fail
    go_ret
    exact ⟨rfl, Gx.refl _⟩
  · have e1 : (p == 1) = false := by simpa using hp
    have e2 : (q == 1) = false := by simpa using hq
    rw [if_neg hp, if_neg hq]
    clear hp hq
    go_enter Try.func50, Try.ntmps50
    go_wp2_with fail
    go_ret
    exact ⟨rfl, Gx.refl _⟩

set_option maxHeartbeats 1000000 in
set_option maxRecDepth 100000 in
theorem often_ok (r0 : Nat) (wd W0 : World) (n : Nat) (hn : n ≤ 1048576) (ns : List Int) (hnl : ns.length = n) (b nb c : Nat) (hb : W0.cell? ⟨b, 0, none⟩ = some (.slice (some ⟨nb, 0, none⟩) n c)) (hbr : b ≠ r0) (hNs : Nums wd nb ns) (hd : Dat r0 wd W0) : CmpOK r0 W0 n (.func (.func 51) #[] #[.pointer (some ⟨b, 0, none⟩)]) (cOften ns) := by
  refine ⟨_, _, rfl, fun _ _ => rfl, fun W hW i j hi hj => ?_⟩
  have hb' := hW _ _ hb hbr
  have g1 := hd.get hW (hNs.cell i (by omega)).1
  have g2 := hd.get hW (hNs.cell j (by omega)).1
  have hi1 : (i : Int) < n := by omega
  have hj1 : (j : Int) < n := by omega
  unfold cOften
  rw [List.getElem?_eq_getElem (show i < ns.length by omega), List.getElem?_eq_getElem (show j < ns.length by omega), Option.getD_some, Option.getD_some]
  have hc := fun w' => Try.cmp_Compare_int (ns[i]'(by omega)) (ns[j]'(by omega)) w'
  change ∀ w', Calls Try.prog 48 _ _ _ at hc
  generalize Lib.compareInt (ns[i]'(by omega)) (ns[j]'(by omega)) = r at hc ⊢
  generalize ns[i]'_ = p at g1 hc
  generalize ns[j]'_ = q at g2 hc
  have HC := Lib.hid hc; clear hc
  clear hNs hb
  go_enter Try.func51, Try.ntmps51
  go_wp2_with fail
  go_quiet ((go_at_call 48; exact Calls.quiet_of_same (HC.out _)))
  go_wp2_with fail
  go_ret
  exact ⟨rfl, (Gx.refl _).drewN _⟩

set_option maxHeartbeats 1000000 in
set_option maxRecDepth 100000 in
theorem seldom_ok (r0 : Nat) (wd W0 : World) (n : Nat) (hn : n ≤ 1048576) (ns : List Int) (hnl : ns.length = n) (b nb c : Nat) (hb : W0.cell? ⟨b, 0, none⟩ = some (.slice (some ⟨nb, 0, none⟩) n c)) (hbr : b ≠ r0) (hNs : Nums wd nb ns) (hd : Dat r0 wd W0) : CmpOK r0 W0 n (.func (.func 52) #[] #[.pointer (some ⟨b, 0, none⟩)]) (cSeldom ns) := by
  refine ⟨_, _, rfl, fun _ _ => rfl, fun W hW i j hi hj => ?_⟩
  have hb' := hW _ _ hb hbr
  have g1 := hd.get hW (hNs.cell i (by omega)).1
  have g2 := hd.get hW (hNs.cell j (by omega)).1
  have hi1 : (i : Int) < n := by omega
  have hj1 : (j : Int) < n := by omega
  unfold cSeldom
  rw [List.getElem?_eq_getElem (show i < ns.length by omega), List.getElem?_eq_getElem (show j < ns.length by omega), Option.getD_some, Option.getD_some]
  have hc := fun w' => Try.cmp_Compare_int (ns[j]'(by omega)) (ns[i]'(by omega)) w'
  change ∀ w', Calls Try.prog 48 _ _ _ at hc
  generalize Lib.compareInt (ns[j]'(by omega)) (ns[i]'(by omega)) = r at hc ⊢
  generalize ns[i]'_ = p at g1 hc
  generalize ns[j]'_ = q at g2 hc
  have HC := Lib.hid hc; clear hc
  clear hNs hb
  go_enter Try.func52, Try.ntmps52
  go_wp2_with fail
  go_quiet ((go_at_call 48; exact Calls.quiet_of_same (HC.out _)))
  go_wp2_with fail
  go_ret
  exact ⟨rfl, (Gx.refl _).drewN _⟩

set_option maxHeartbeats 1000000 in
set_option maxRecDepth 100000 in
theorem or_any (x : Int) (w : World) (b : Nat) (hb : w.cell? ⟨b, 0, none⟩ = some (.int .i64 x)) : Calls Try.prog 77 #[.slice (some ⟨b, 0, none⟩) 1 1] w fun e w' => e = .returned (.int .i64 x) ∧ w' = w := by
  by_cases hx : x = 0
  · have e1 : (x != 0) = false := by simpa using hx
    have HX := Lib.hid hx; clear hx
    go_enter Try.func77, Try.ntmps77
    go_wp2_with fail
    go_loopw [8] (fun i wr => (i = .int .i64 0 ∨ i = .int .i64 1) ∧ wr = w) (fun i _ => 1 - (intOf i).toNat)
    case atStart => exact ⟨.inl rfl, rfl⟩
    case round =>
      obtain ⟨rfl | rfl, rfl⟩ := hrel
      · go_wp2_with fail
        go_roundw
        case rel => exact ⟨.inr (by go_num), trivial⟩
        case measure => simp [intOf]
      · go_wp2_with fail
        go_ret
        exact ⟨by rw [HX.out]; rfl, rfl⟩
  · have e1 : (x != 0) = true := by simpa using hx
    clear hx
    go_enter Try.func77, Try.ntmps77
    go_wp2_with fail
    go_loopw [8] (fun i wr => i = .int .i64 0 ∧ wr = w) (fun i _ => 0)
    case atStart => exact ⟨rfl, rfl⟩
    case round =>
      obtain ⟨rfl, rfl⟩ := hrel
      go_wp2_with fail
      go_ret
      exact ⟨rfl, rfl⟩
end Go.Proofs.Ytdmiphdohfcbeaa
namespace Go.Proofs.Ytdmiphdohfcbeaa
open Go.ChangeShapes Go.WideShapes Go.ChangeAt Go.RowKit

set_option maxHeartbeats 2000000 in
set_option maxRecDepth 100000 in
theorem by_ok (r0 : Nat) (W0 : World) (n : Nat) (hn : n ≤ 1048576) (b fb : Nat) (hbr : b ≠ r0) (hfr : fb ≠ r0) (cfs : List (Nat → Nat → Int)) (hm : cfs.length ≤ 100) (hb : W0.cell? ⟨b, 0, none⟩ = some (.slice (some ⟨fb, 0, none⟩) cfs.length cfs.length))
    (hf : ∀ k (h : k < cfs.length), ∃ fv, W0.cell? ⟨fb, k, none⟩ = some fv ∧ CmpOK r0 W0 n fv cfs[k]) : CmpOK r0 W0 n (.func (.func 76) #[] #[.pointer (some ⟨b, 0, none⟩)]) (firstNZ cfs) := by
  refine ⟨_, _, rfl, fun _ _ => rfl, fun W hW i j hi hj => ?_⟩
  have hb' := hW _ _ hb hbr
  clear hb
  go_enter Try.func76, Try.ntmps76
  go_wp2_with fail
  go_loopw [11] (fun s wr => ∃ k : Nat, k ≤ cfs.length ∧ s = .int .i64 k ∧ firstNZ cfs i j = firstNZ (cfs.drop k) i j ∧ Gx W wr) (fun s _ => cfs.length - (intOf s).toNat)
  case atStart => exact ⟨0, Nat.zero_le _, rfl, rfl, Gx.refl _⟩
  case round =>
    obtain ⟨k, hkk, rfl, hck, hg⟩ := hrel
    have Hck := Lib.hid hck; clear hck
    by_cases hlt : k < cfs.length
    · have hk1 : (k : Int) < cfs.length := by omega
      obtain ⟨fv, hc, g, cb, rfl, heg, hcall⟩ := hf k hlt
      have hc' := (hW.gx hg) _ _ hc hfr
      have HCL := Lib.hid (hcall wr (hW.gx hg) i j hi hj)
      have Hst := Lib.hid (firstNZ_drop hlt i j)
      clear hcall hc
      generalize cfs[k] i j = r at HCL Hst
      have HO := Lib.hid or_any
      by_cases hr : r = 0
      · have hrb : (r != 0) = false := by simpa using hr
        have HR := Lib.hid hr; clear hr
        go_wp2_with (first
          | (go_at_call 77; refine (HO.out r _ _ (by go_simp)).mono ?_; rintro e w3 ⟨rfl, rfl⟩)
          | (refine (HCL.out).mono ?_; rintro e w2 ⟨rfl, hx2⟩))
        go_roundw
        case rel => exact ⟨k + 1, by omega, by go_num, by rw [Hck.out, Hst.out, if_neg (by simp [HR.out])], (hg.trans hx2).alloc _⟩
        case measure => simp [intOf]; omega
      · have hrb : (r != 0) = true := by simpa using hr
        have HR := Lib.hid hr; clear hr
        go_wp2_with (first
          | (go_at_call 77; refine (HO.out r _ _ (by go_simp)).mono ?_; rintro e w3 ⟨rfl, rfl⟩)
          | (refine (HCL.out).mono ?_; rintro e w2 ⟨rfl, hx2⟩))
        go_ret
        exact ⟨by rw [Hck.out, Hst.out, if_pos HR.out]; rfl, (hg.trans hx2).alloc _⟩
    · have hk1 : ¬ (k : Int) < cfs.length := by omega
      go_wp2_with fail
      go_ret
      have hke : k = cfs.length := by omega
      exact ⟨by rw [Hck.out, hke, List.drop_length]; rfl, hg⟩

set_option maxHeartbeats 2000000 in
set_option maxRecDepth 100000 in
theorem ways_any (rB : Nat) (wd : World) (l : List Sy) (hl : l.length ≤ 1048576) (ns : List Int) (hnl : ns.length = l.length) (w : World) (hr0 : rB < w.heap.size ∨ w.heap.size + 100 ≤ rB) (a : Option Addr) (n nb c : Nat) (hsy : IsSyms wd a l) (hNs : Nums wd nb ns) (hd : Dat rB wd w) :
    Calls Try.prog 30 #[.agg #[.slice a l.length n], .slice (some ⟨nb, 0, none⟩) l.length c] w fun e w' => (∃ B, e = .returned (.slice (some ⟨B, 0, none⟩) 5 5) ∧ w.heap.size ≤ B ∧ ∀ p, p < 5 → ∃ fv, w'.cell? ⟨B, p, none⟩ = some fv ∧ CmpOK rB w' l.length fv (wayOf l ns p)) ∧ Ext w w' := by
  go_enter Try.func30, Try.ntmps30
  go_wp2_with go_in
  go_ret
  generalize hW : World.alloc _ (.cells #[_, _, _, _, _] 68) = W
  have x0 : W.cell? ⟨w.heap.size, 0, none⟩ = some (.slice a l.length n) := by subst hW; go_simp
  have x1 : W.cell? ⟨w.heap.size + 1, 0, none⟩ = some (.slice (some ⟨nb, 0, none⟩) l.length c) := by subst hW; go_simp
  have hx : Ext w W := by subst hW; go_grown
  have f00 : W.cell? ⟨w.heap.size + 1 + 1, 0, none⟩ = some (.func (.func 47) #[] #[]) := by subst hW; go_simp
  have b0 : W.cell? ⟨w.heap.size + 1 + 1 + 1, 0, none⟩ = some (.slice (some ⟨w.heap.size + 1 + 1, 0, none⟩) 1 1) := by subst hW; go_simp
  have r0 : W.cell? ⟨w.heap.size + 1 + 1 + 1 + 1 + 1 + 1 + 1 + 1 + 1 + 1 + 1 + 1, 0, none⟩ = some (.func (.func 76) #[] #[.pointer (some ⟨w.heap.size + 1 + 1 + 1, 0, none⟩)]) := by subst hW; go_simp
  have f10 : W.cell? ⟨w.heap.size + 1 + 1 + 1 + 1, 0, none⟩ = some (.func (.func 49) #[] #[.pointer (some ⟨w.heap.size, 0, none⟩)]) := by subst hW; go_simp
  have f11 : W.cell? ⟨w.heap.size + 1 + 1 + 1 + 1, 1, none⟩ = some (.func (.func 47) #[] #[]) := by subst hW; go_simp
  have b1 : W.cell? ⟨w.heap.size + 1 + 1 + 1 + 1 + 1, 0, none⟩ = some (.slice (some ⟨w.heap.size + 1 + 1 + 1 + 1, 0, none⟩) 2 2) := by subst hW; go_simp
  have r1 : W.cell? ⟨w.heap.size + 1 + 1 + 1 + 1 + 1 + 1 + 1 + 1 + 1 + 1 + 1 + 1, 1, none⟩ = some (.func (.func 76) #[] #[.pointer (some ⟨w.heap.size + 1 + 1 + 1 + 1 + 1, 0, none⟩)]) := by subst hW; go_simp
  have f20 : W.cell? ⟨w.heap.size + 1 + 1 + 1 + 1 + 1 + 1, 0, none⟩ = some (.func (.func 50) #[] #[.pointer (some ⟨w.heap.size, 0, none⟩)]) := by subst hW; go_simp
  have f21 : W.cell? ⟨w.heap.size + 1 + 1 + 1 + 1 + 1 + 1, 1, none⟩ = some (.func (.func 49) #[] #[.pointer (some ⟨w.heap.size, 0, none⟩)]) := by subst hW; go_simp
  have f22 : W.cell? ⟨w.heap.size + 1 + 1 + 1 + 1 + 1 + 1, 2, none⟩ = some (.func (.func 47) #[] #[]) := by subst hW; go_simp
  have b2 : W.cell? ⟨w.heap.size + 1 + 1 + 1 + 1 + 1 + 1 + 1, 0, none⟩ = some (.slice (some ⟨w.heap.size + 1 + 1 + 1 + 1 + 1 + 1, 0, none⟩) 3 3) := by subst hW; go_simp
  have r2 : W.cell? ⟨w.heap.size + 1 + 1 + 1 + 1 + 1 + 1 + 1 + 1 + 1 + 1 + 1 + 1, 2, none⟩ = some (.func (.func 76) #[] #[.pointer (some ⟨w.heap.size + 1 + 1 + 1 + 1 + 1 + 1 + 1, 0, none⟩)]) := by subst hW; go_simp
  have f30 : W.cell? ⟨w.heap.size + 1 + 1 + 1 + 1 + 1 + 1 + 1 + 1, 0, none⟩ = some (.func (.func 51) #[] #[.pointer (some ⟨w.heap.size + 1, 0, none⟩)]) := by subst hW; go_simp
  have f31 : W.cell? ⟨w.heap.size + 1 + 1 + 1 + 1 + 1 + 1 + 1 + 1, 1, none⟩ = some (.func (.func 47) #[] #[]) := by subst hW; go_simp
  have b3 : W.cell? ⟨w.heap.size + 1 + 1 + 1 + 1 + 1 + 1 + 1 + 1 + 1, 0, none⟩ = some (.slice (some ⟨w.heap.size + 1 + 1 + 1 + 1 + 1 + 1 + 1 + 1, 0, none⟩) 2 2) := by subst hW; go_simp
  have r3 : W.cell? ⟨w.heap.size + 1 + 1 + 1 + 1 + 1 + 1 + 1 + 1 + 1 + 1 + 1 + 1, 3, none⟩ = some (.func (.func 76) #[] #[.pointer (some ⟨w.heap.size + 1 + 1 + 1 + 1 + 1 + 1 + 1 + 1 + 1, 0, none⟩)]) := by subst hW; go_simp
  have f40 : W.cell? ⟨w.heap.size + 1 + 1 + 1 + 1 + 1 + 1 + 1 + 1 + 1 + 1, 0, none⟩ = some (.func (.func 52) #[] #[.pointer (some ⟨w.heap.size + 1, 0, none⟩)]) := by subst hW; go_simp
  have f41 : W.cell? ⟨w.heap.size + 1 + 1 + 1 + 1 + 1 + 1 + 1 + 1 + 1 + 1, 1, none⟩ = some (.func (.func 47) #[] #[]) := by subst hW; go_simp
  have b4 : W.cell? ⟨w.heap.size + 1 + 1 + 1 + 1 + 1 + 1 + 1 + 1 + 1 + 1 + 1, 0, none⟩ = some (.slice (some ⟨w.heap.size + 1 + 1 + 1 + 1 + 1 + 1 + 1 + 1 + 1 + 1, 0, none⟩) 2 2) := by subst hW; go_simp
  have r4 : W.cell? ⟨w.heap.size + 1 + 1 + 1 + 1 + 1 + 1 + 1 + 1 + 1 + 1 + 1 + 1, 4, none⟩ = some (.func (.func 76) #[] #[.pointer (some ⟨w.heap.size + 1 + 1 + 1 + 1 + 1 + 1 + 1 + 1 + 1 + 1 + 1, 0, none⟩)]) := by subst hW; go_simp
  clear hW
  have hdW := hd.ext hx
  have k1 := number_ok rB W l.length hl
  have k2 := arity_ok rB wd W l hl _ a n x0 (by omega) hsy hdW
  have k3 := unary_ok rB wd W l hl _ a n x0 (by omega) hsy hdW
  have k4 := often_ok rB wd W l.length hl ns hnl _ nb c x1 (by omega) hNs hdW
  have k5 := seldom_ok rB wd W l.length hl ns hnl _ nb c x1 (by omega) hNs hdW
  refine ⟨⟨_, rfl, by omega, fun p hp => ?_⟩, hx⟩
  have hp5 : p = 0 ∨ p = 1 ∨ p = 2 ∨ p = 3 ∨ p = 4 := by omega
  rcases hp5 with rfl | rfl | rfl | rfl | rfl
  · refine ⟨_, r0, by_ok rB W l.length hl _ _ (by omega) (by omega) [cNumber] (by simp) b0 fun k hk => ?_⟩
    have hk5 : k = 0 := by simp at hk; omega
    subst hk5
    exact ⟨_, f00, k1⟩
  · refine ⟨_, r1, by_ok rB W l.length hl _ _ (by omega) (by omega) [cArity l, cNumber] (by simp) b1 fun k hk => ?_⟩
    have hk5 : k = 0 ∨ k = 1 := by simp at hk; omega
    rcases hk5 with rfl | rfl
    · exact ⟨_, f10, k2⟩
    · exact ⟨_, f11, k1⟩
  · refine ⟨_, r2, by_ok rB W l.length hl _ _ (by omega) (by omega) [cUnary l, cArity l, cNumber] (by simp) b2 fun k hk => ?_⟩
    have hk5 : k = 0 ∨ k = 1 ∨ k = 2 := by simp at hk; omega
    rcases hk5 with rfl | rfl | rfl
    · exact ⟨_, f20, k3⟩
    · exact ⟨_, f21, k2⟩
    · exact ⟨_, f22, k1⟩
  · refine ⟨_, r3, by_ok rB W l.length hl _ _ (by omega) (by omega) [cOften ns, cNumber] (by simp) b3 fun k hk => ?_⟩
    have hk5 : k = 0 ∨ k = 1 := by simp at hk; omega
    rcases hk5 with rfl | rfl
    · exact ⟨_, f30, k4⟩
    · exact ⟨_, f31, k1⟩
  · refine ⟨_, r4, by_ok rB W l.length hl _ _ (by omega) (by omega) [cSeldom ns, cNumber] (by simp) b4 fun k hk => ?_⟩
    have hk5 : k = 0 ∨ k = 1 := by simp at hk; omega
    rcases hk5 with rfl | rfl
    · exact ⟨_, f40, k5⟩
    · exact ⟨_, f41, k1⟩
end Go.Proofs.Ytdmiphdohfcbeaa
namespace Go.Proofs.Ytdmiphdohfcbeaa
open Go.ChangeShapes Go.WideShapes Go.ChangeAt Go.RowKit Go.Shelf

theorem cmpI_lt (x y : Int) : (Lib.compareInt x y < 0 ↔ x < y) ∧ (Lib.compareInt x y = 0 ↔ x = y) := by
  unfold Lib.compareInt
  split
  · omega
  · split <;> omega
theorem nzlt (c d : Int) : (if c ≠ 0 then c else d) < 0 ↔ c < 0 ∨ (c = 0 ∧ d < 0) := by by_cases h : c = 0 <;> simp [h]
/-- a way tells less by what ranks, and by the number -/
theorem wayOf_lt {l : List Sy} {ns : List Int} {p : Nat} (hp : p < 5) (har : ∀ i, arOf l i ≤ 6) (i j : Nat) : wayOf l ns p i j < 0 ↔ aboveB (rankVal l p ns) j i = true := by
  have hval : ∀ q : Nat, ((l[q]?).map Sy.arity).getD 0 = arOf l q := fun _ => rfl
  have e1 := cmpI_lt (i : Int) j
  have e2 := cmpI_lt (arOf l i) (arOf l j)
  have e3 := cmpI_lt ((ns[i]?).getD 0) ((ns[j]?).getD 0)
  have e4 := cmpI_lt ((ns[j]?).getD 0) ((ns[i]?).getD 0)
  have a1 := har i
  have a2 := har j
  simp only [aboveB, decide_eq_true_eq]
  have h5 : p = 0 ∨ p = 1 ∨ p = 2 ∨ p = 3 ∨ p = 4 := by omega
  rcases h5 with rfl | rfl | rfl | rfl | rfl
  · simp [wayOf, firstNZ, nzlt, rankVal, cNumber]
    omega
  · simp only [wayOf, firstNZ, nzlt, rankVal, cNumber, cArity, hval, Nat.reduceEqDiff, if_false, if_true, Int.cast_ofNat_Int]
    omega
  · simp only [wayOf, firstNZ, nzlt, rankVal, cNumber, cArity, cUnary, hval, Nat.reduceEqDiff, if_false, if_true, Int.cast_ofNat_Int, Int.reduceEq]
    by_cases h1 : arOf l i = 1 <;> by_cases h2 : arOf l j = 1
    · simp only [if_pos h1, if_pos h2]; simp; omega
    · simp only [if_pos h1, if_neg h2]; omega
    · simp only [if_neg h1, if_pos h2]; omega
    · simp only [if_neg h1, if_neg h2]; omega
  · simp only [wayOf, firstNZ, nzlt, rankVal, cNumber, cOften, hval, Nat.reduceEqDiff, if_false, if_true, Int.cast_ofNat_Int, Int.reduceEq]
    omega
  · simp only [wayOf, firstNZ, nzlt, rankVal, cNumber, cSeldom, hval, Nat.reduceEqDiff, if_false, if_true, Int.cast_ofNat_Int, Int.reduceEq]
    omega

/-- the numbers from 1 on -/
def idxs (n : Nat) : List Int := ((List.range n).drop 1).map fun i : Nat => (i : Int)
theorem idxs_length (n : Nat) : (idxs n).length = n - 1 := by simp [idxs]
theorem idxs_at {n k : Nat} (h : k < n - 1) : (idxs n)[k]'(by rw [idxs_length]; exact h) = (k : Int) + 1 := by simp [idxs]; omega

theorem aboveB_true {v : Nat → Int} {i k : Nat} : aboveB v i k = true ↔ (v k < v i ∨ (v k = v i ∧ k < i)) := by unfold aboveB; rw [decide_eq_true_iff]
theorem chg_sortWorld {α : Type} [Inhabited α] (enc : α → Value) (w : World) (blk off m : Nat) (dk : Array α) (os : Array Obj) : Chg [blk] w (sortWorld enc w blk off m dk os) := by
  refine ⟨rfl, rfl, rfl, ?_, fun k hk hs => ?_⟩
  · simp [sortWorld, Go.Sort.grow, Go.Sort.putRow, Go.Sort.mapBlock, Go.Sort.ahead]
  · have hkb : k ≠ blk := by simpa using hs
    simp only [sortWorld, Go.Sort.grow, Go.Sort.putRow, Go.Sort.mapBlock, Go.Sort.ahead]
    rw [Array.getElem?_append_left (by simpa using hk), Array.getElem?_modify, if_neg (fun e => hkb e.symm)]
open Go.Sort in
set_option maxHeartbeats 1000000 in
theorem sort_any (l : List Sy) (har : ∀ i, arOf l i ≤ 6) (ns : List Int) (p : Nat) (hp : p < 5) (n : Nat) (hn : n ≤ 1048576) (w : World) (B : Nat) (va : Option Addr) (vc : Nat) (hrow : GRow eltInt 3 B w (.slice va (n - 1) vc) (idxs n)) (hB : ∀ g, va = some ⟨g, 0, none⟩ → B ≤ g)
    (fv : Value) (r : Nat) (hr : ∀ g, va = some ⟨g, 0, none⟩ → g = r) (hf : CmpOK r w n fv (wayOf l ns p)) :
    Calls Try.prog 29 #[.slice va (n - 1) vc, fv] w fun e w' => e = .returned (.tuple #[]) ∧ ∃ L : List Nat, L.Perm ((List.range n).drop 1) ∧ L.Pairwise (fun a b => aboveB (rankVal l p ns) a b = false) ∧ Chg [r] w w' ∧
      ∀ k (h : k < L.length), va = some ⟨r, 0, none⟩ ∧ w'.cell? ⟨r, k, none⟩ = some (.int .i64 (L[k] : Nat)) := by
  obtain ⟨g, cb, rfl, eg, hcall⟩ := hf
  rcases Nat.eq_zero_or_pos (n - 1) with h0 | h0
  · have hS := Try.slices_SortFunc_none (α := Nat) va vc (.func (.func g) #[] cb) w
    change Calls Try.prog 29 _ _ _ at hS
    rw [h0]
    refine hS.mono ?_
    rintro e w' ⟨rfl, rfl⟩
    have hd : (List.range n).drop 1 = [] := by rw [List.drop_eq_nil_iff]; simp; omega
    exact ⟨rfl, [], by rw [hd], List.Pairwise.nil, Chg.refl _ _, fun k h => by simp at h⟩
  · obtain ⟨q, hq⟩ : ∃ q, n = q + 1 := ⟨n - 1, by omega⟩
    subst hq
    simp only [Nat.add_sub_cancel] at *
    have hva : va = some ⟨r, 0, none⟩ := by
      obtain ⟨g', cap, cs, hv, hb, -⟩ := hrow.at (j := 0) (by rw [idxs_length]; omega)
      injection hv with h1 h2 h3
      rw [h1, hr g' h1]
    subst hva
    haveI : Inhabited (Fin (q + 1)) := ⟨0⟩
    have hcell : ∀ k, k < q → w.cell? ⟨r, k, none⟩ = some (.int .i64 ((k : Int) + 1)) ∧ w.frozen? ⟨r, k, none⟩ = false := by
      intro k hk
      have hk2 : k < (idxs (q + 1)).length := by rw [idxs_length]; omega
      obtain ⟨g', cap', cs', hv', -, -, -, ⟨hcs, -, -⟩, -, hc'⟩ := hrow.at hk2
      injection hv' with e1 e2 e3
      injection e1 with e1
      injection e1 with e1 _ _
      subst e1
      have hc0 := hc' 0 (.int .i64 (idxs (q + 1))[k]) (by rw [hcs]; rfl)
      rw [idxs_at (by omega)] at hc0
      obtain ⟨cs, hcl, ⟨-, hown⟩, hel⟩ := hrow
      rcases hown with ⟨hv, -⟩ | ⟨g', cap, cur, hv, hb, hh, -⟩
      · cases hv
      · injection hv with e1 e2 e3
        injection e1 with e1
        injection e1 with e1 _ _
        subst e1
        refine ⟨?_, ?_⟩
        · have : k * eltInt.size + 0 = k := by show k * 1 + 0 = k; omega
          rw [this] at hc0; exact hc0
        · unfold World.frozen?; simp only [hh]; simp
    let enc : Fin (q + 1) → Value := fun x => .int .i64 (x.val : Nat)
    let cf : Fin (q + 1) → Fin (q + 1) → Int := fun x y => wayOf l ns p x.val y.val
    let d : Array (Fin (q + 1)) := (List.ofFn fun k : Fin q => (⟨k.val + 1, by omega⟩ : Fin (q + 1))).toArray
    have hds : d.size = q := by simp [d]
    have hdj : ∀ j (hj : j < q), d[j]! = ⟨j + 1, by omega⟩ := fun j hj => by
      rw [getElem!_pos d j (by rw [hds]; exact hj)]; simp [d]
    have hlt : ∀ x y, ltOf cf x y = aboveB (rankVal l p ns) y.val x.val := fun x y => by
      unfold ltOf
      rw [Bool.eq_iff_iff, decide_eq_true_iff]
      exact wayOf_lt hp har x.val y.val
    have hO : SWO (ltOf cf) := ⟨fun x => by rw [hlt]; exact above_irrefl _ _, fun x y z h1 h2 => by rw [hlt] at *; exact above_trans h2 h1, fun x y z h1 h2 => by
      rw [hlt] at *
      cases h3 : aboveB (rankVal l p ns) z.val x.val with
      | false => rfl
      | true =>
        rw [Bool.eq_false_iff] at h1 h2
        rw [ne_eq, aboveB_true] at h1 h2
        rw [aboveB_true] at h3
        omega⟩
    have hT : ∀ x y, ltOf cf x y = false → ltOf cf y x = false → x = y := fun x y h1 h2 => by
      rw [hlt] at *
      by_cases hxy : x.val = y.val
      · exact Fin.ext hxy
      · rw [above_total (fun e => hxy e.symm), h2] at h1; cases h1
    have hH : Go.Sort.Holds enc w r 0 d := fun j hj => by
      rw [hds] at hj
      rw [hdj j hj, Nat.zero_add]
      have := hcell j hj
      exact ⟨by rw [this.1]; simp [enc], this.2⟩
    have hblk : r < w.heap.size := by have := cell_lt (hcell 0 h0).1; simpa using this
    have hcmp : CmpLays1 Try.prog g cb enc cf r 0 d.size w := fun m os dk hs x y => by
      refine (hcall _ (fun p v hp hb => (chg_sortWorld enc w r 0 m dk os).cell hp (by simpa using hb)) x.val y.val x.isLt y.isLt).mono ?_
      rintro e w' ⟨he, hg⟩
      exact ⟨he, hg.grow⟩
    have hS := Try.slices_SortFunc_total enc (fun _ => rfl) cf hO g cb r 0 vc d w eg hcmp hH hblk (by rw [hds]; omega) hT
    change Calls Try.prog 29 _ _ _ at hS
    rw [hds] at hS
    refine hS.mono ?_
    rintro e w' ⟨he, m, os, hw⟩
    obtain ⟨M, hM⟩ : ∃ M, M = d.toList.mergeSort fun x y => !(ltOf cf) y x := ⟨_, rfl⟩
    rw [← hM] at hw
    have hperm : M.Perm d.toList := by rw [hM]; exact List.mergeSort_perm _ _
    have hMl : M.length = q := by rw [hperm.length_eq, Array.length_toList, hds]
    refine ⟨he, M.map Fin.val, ?_, ?_, by rw [hw]; exact chg_sortWorld _ _ _ _ _ _ _, fun k hk => ⟨rfl, ?_⟩⟩
    · have h1 := hperm.map Fin.val
      have h2 : d.toList.map Fin.val = (List.range (q + 1)).drop 1 := by
        apply List.ext_getElem
        · simp [d]
        · intro i h1 h2
          simp [d]; omega
      rw [h2] at h1; exact h1
    · rw [List.pairwise_map]
      have h1 := List.pairwise_mergeSort (le := fun x y => !(ltOf cf) y x) (fun a b c h1 h2 => by
        simp only [Bool.not_eq_true'] at *
        exact hO.ntrans _ _ _ h2 h1) (fun a b => by
        simp only [hlt]
        by_cases hab : a.val = b.val
        · rw [hab, above_irrefl]; rfl
        · rw [above_total hab]; cases aboveB (rankVal l p ns) b.val a.val <;> rfl) d.toList
      rw [← hM] at h1
      refine h1.imp ?_
      intro a b h
      rw [hlt] at h
      simpa using h
    · have hh := holds_sortWorld enc w r 0 m d M.toArray os hblk hH (by simp [hMl, hds])
      simp only [List.length_map] at hk
      have h3 := (hh k (by simpa using hk)).1
      rw [Nat.zero_add] at h3
      rw [hw, h3]
      have : M.toArray[k]! = M[k] := by rw [getElem!_pos M.toArray k (by simpa using hk)]; simp
      rw [this, List.getElem_map]
end Go.Proofs.Ytdmiphdohfcbeaa
