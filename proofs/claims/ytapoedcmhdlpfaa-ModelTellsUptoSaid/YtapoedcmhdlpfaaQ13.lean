/- A map from variables to elements; what value of the model layer returns. Condition: an interpretation that may be, a term that may be over the signature. -/
import Derived.Test.YtapoedcmhdlpfaaQ9
import Derived.Test.YtapoedcmhdlpfaaQ10
import Derived.Maps.Own
import Derived.Maps.OwnOps
import Derived.Maps.OwnSet
import Derived.Maps.Views
namespace Go.Proofs.Ytapoedcmhdlpfaa
open Go.ChangeShapes Go.WideShapes Go.ChangeAt Go.RowKit Go.Maps
attribute [local go_sem] undef
theorem intKeyed : Keyed Try.prog 3 := Maps.int_keyed Try.underlying3
/-- the map holds what variables are; so many stores were made -/
def EnvMap (w : World) (mb n : Nat) (env : Int → Int) : Prop :=
  ∃ D : DataW Unit, IsMap D ∧ w.ownsMap Try.prog 3 (plainElem Try.prog 3) mb n D ∧ ∀ f : Int, -1000 ≤ f → f < 0 → D.atKey (.int .i64 f) (.lit (.int .i64 0)) = .lit (.int .i64 (env (-1 - f)))
theorem key_int {k : Int} (h1 : -1000 ≤ k) (h2 : k < 0) : keyOf Try.prog 3 (.int .i64 k) = some (.int .i64 k) := Maps.keyOf_int_mk Try.underlying3 (WalkArith.wf_i64 ⟨by omega, by omega⟩)
set_option maxRecDepth 100000 in
theorem plainElem_int_inv' {v : Value} {z : DataW Unit × List MemPlace} (h : plainElem Try.prog 3 v = some z) : ∃ i, v = .int .i64 i ∧ z = (.lit (.int .i64 i), []) := by
  unfold plainElem at h
  rw [Try.underlying3] at h
  cases v <;> simp at h
  obtain ⟨⟨rfl, -⟩, h2⟩ := h
  exact ⟨_, rfl, h2.symm⟩
set_option maxRecDepth 100000 in
theorem env_look {w : World} {mb n : Nat} {env : Int → Int} (h : EnvMap w mb n env) {f : Int} (h1 : -1000 ≤ f) (h2 : f < 0) :
    (Instr.lookup 54 (.map (some mb)) (.int .i64 f) false).run Try.prog w = .ok (.int .i64 (env (-1 - f))) w := by
  obtain ⟨D, hD, hown, hat⟩ := h
  obtain ⟨v, ps, hrun, hv⟩ := hown.lookup intKeyed Try.underlying54 (z := .int .i64 0) (by kernel_rfl) (plainElem_int Try.underlying3 (by decide)) (key_int h1 h2)
  obtain ⟨i, rfl, hz⟩ := plainElem_int_inv' hv
  rw [hat f h1 h2] at hz
  injection hz with h1 h2
  injection h1 with h1
  injection h1 with _ h1
  rw [hrun, ← h1]
theorem EnvMap.lt {w : World} {mb n : Nat} {env : Int → Int} (h : EnvMap w mb n env) : mb < w.heap.size := by
  obtain ⟨D, hD, hown, hat⟩ := h
  exact hown.lt
theorem EnvMap.keep {w w' : World} {mb n : Nat} {env : Int → Int} (h : EnvMap w mb n env) (hx : w'.heap[mb]? = w.heap[mb]?) : EnvMap w' mb n env := by
  obtain ⟨D, hD, hown, hat⟩ := h
  obtain ⟨es, clock, hb, F, hs, hDD⟩ := hown
  exact ⟨D, hD, ⟨es, clock, hx.trans hb, F, hs, hDD⟩, hat⟩
theorem EnvMap.chg {S : List Nat} {w w' : World} {mb n : Nat} {env : Int → Int} (h : EnvMap w mb n env) (hx : Chg S w w') (hS : mb ∉ S) : EnvMap w' mb n env := h.keep (hx.block mb h.lt hS)
theorem EnvMap.ext {w w' : World} {mb n : Nat} {env : Int → Int} (h : EnvMap w mb n env) (hx : Ext w w') : EnvMap w' mb n env := h.keep (hx.block mb h.lt)
theorem env_put {w' : World} {mb n : Nat} {env : Int → Int} {D : DataW Unit} (hD : IsMap D) (hat : ∀ f : Int, -1000 ≤ f → f < 0 → D.atKey (.int .i64 f) (.lit (.int .i64 0)) = .lit (.int .i64 (env (-1 - f)))) {i x : Int}
    (hown : w'.ownsMap Try.prog 3 (plainElem Try.prog 3) mb (n + 1) (D.put (.int .i64 (-1 - i)) (.lit (.int .i64 x)))) : EnvMap w' mb (n + 1) (fun k => if k = i then x else env k) := by
  refine ⟨_, hD.put _ _, hown, fun f h1 h2 => ?_⟩
  by_cases he : -1 - f = i
  · have hf : f = -1 - i := by omega
    subst hf
    rw [atKey_put_same hD (by exact trivial)]
    simp only [he, if_pos]
  · rw [atKey_put_other (fun h => he (by injection h with _ h; omega)), hat f h1 h2]
    simp only [he, if_neg, not_false_eq_true]
theorem env_new (w : World) : EnvMap (w.alloc (.map #[] 0)) w.heap.size 0 (fun _ => 0) := ⟨.map [], ⟨[], rfl⟩, World.ownsMap_made _ _ _ _, fun _ _ _ => rfl⟩

set_option maxHeartbeats 4000000 in
set_option maxRecDepth 100000 in
theorem value_any {l : List Sy} {s : Nat} {tb : List (List Int)} (hm : modCheck l s tb = 0) {env : Int → Int} (he : ∀ v, 0 ≤ env v ∧ env v < (s : Int)) (t : Tm) :
    ∀ (b : Bool) (w : World) (ta : Option Addr) (tc mb n : Nat) (x y : Value), IsTabs w ta tb → EnvMap w mb n env → IsTm w x y t → t.over l b = true → t.low 48 = true →
    Calls Try.prog 19 #[.agg #[.int .i64 s, .slice ta tb.length tc], .map (some mb), .agg #[x, y]] w fun e w' => e = .returned (.int .i64 (t.val s tb env)) ∧ Ext w w' := by
  induction t using Tm.ind with
  | h f ks ih =>
    intro b w ta tc mb n x y hT hE ht ho hlow
    obtain ⟨hsg, ⟨s', hs', hs1, hs3⟩, hlen, -, -⟩ := mod_parts hm
    obtain rfl : s = s' := by omega
    obtain ⟨-, -, -, hsig⟩ := sig_facts hsg
    have ht0 := ht
    obtain ⟨a', c', rfl, rfl, hf1, hf2, -, hks⟩ := ht.form
    simp only [Tm.f, Tm.ks] at *
    obtain ⟨W, hW⟩ : ∃ W, W = (w.alloc (.cells #[.int .i64 s, .slice ta tb.length tc] 27)).alloc (.cells #[.int .i64 f, .slice a' ks.length c'] 30) := ⟨_, rfl⟩
    have hx : Ext w W := by subst hW; go_grown
    have k0 : W.cell? ⟨w.heap.size, 0, none⟩ = some (.int .i64 s) := by subst hW; go_simp
    have k1 : W.cell? ⟨w.heap.size, 1, none⟩ = some (.slice ta tb.length tc) := by subst hW; go_simp
    have k2 : W.cell? ⟨w.heap.size + 1, 0, none⟩ = some (.int .i64 f) := by subst hW; go_simp
    have k3 : W.cell? ⟨w.heap.size + 1, 1, none⟩ = some (.slice a' ks.length c') := by subst hW; go_simp
    by_cases hf : f < 0
    · obtain ⟨g1, -⟩ := low_var hlow hf
      have hlk := env_look (hE.ext hx) (f := f) (by omega) hf
      have hval : Tm.val s tb env (.mk f ks) = env (-1 - f) := by simp only [Tm.val]; rw [if_pos hf]
      rw [hval]
      clear hval ih hsig hlen hsg hm he ho hlow ht ht0 hT hE hks
      generalize env (-1 - f) = r at hlk
      rw [hW] at hlk
      go_enter Try.func19, Try.ntmps19
      go_wp2_with fail
      rw [← hW]
      go_ret
      exact ⟨rfl, hx⟩
    obtain ⟨hfl, har, -, hov⟩ := over_parts ho hf
    have hlows := low_fun hlow hf
    have hk6 : ks.length ≤ 6 := by have := (hsig _ hfl).2; omega
    obtain ⟨V, hV⟩ : ∃ V, V = Tm.vals s tb env ks := ⟨_, rfl⟩
    have hVl : V.length = ks.length := by rw [hV, vals_length]
    have hVr : ∀ x ∈ V, 0 ≤ x ∧ x < (s : Int) := by rw [hV]; exact vals_range hm he hov
    obtain ⟨i, rfl⟩ : ∃ i : Nat, f = i := ⟨f.toNat, by omega⟩
    simp only [Int.toNat_natCast] at hfl har
    obtain ⟨p1, p, p2, p3, p4, p5, p6⟩ := val_place hm hfl (row := V) (by rw [hVl]; exact har.symm) hVr
    have hres : Tm.val s tb env (.mk i ks) = tb[i][p] := val_fun hf p1 p2 (by rw [← hV]; exact p3)
    obtain ⟨bt, ot, ra, rc, rfl, t1, hrc, hI⟩ := hT i p1
    obtain ⟨r1, r2, br, ob, rfl, t2⟩ := hI p p2
    rw [hres]
    have HPL := Lib.hid (fun w' (a : Option Addr) (c : Nat) (hi : IsInts w' a V) => place_any s hs1 hs3 V (by omega) hVr w' a c hi)
    rw [p3] at HPL
    have HVA := Lib.hid (fun k (h : k < ks.length) => show V.take (k + 1) = V.take k ++ [Tm.val s tb env ks[k]] by rw [hV]; exact vals_take h)
    have HVR := Lib.hid (fun k (h : k < ks.length) => show -9223372036854775808 ≤ Tm.val s tb env ks[k] ∧ Tm.val s tb env ks[k] ≤ 9223372036854775807 by
      have h1 := hVr (V[k]'(by omega)) (List.getElem_mem _)
      have h2 : V[k]'(by omega) = Tm.val s tb env ks[k] := by simp only [hV]; exact vals_at _ _ _ _ _ h
      rw [h2] at h1; omega)
    have HIH := Lib.hid (fun k (h : k < ks.length) w' (hx' : Ext w w') x y (hi : IsTm w' x y ks[k]) => ih ks[k] (List.getElem_mem h) false w' (some ⟨bt, ot, none⟩) tc mb n x y (hT.ext hx') (hE.ext hx') hi (overs_at hov h) (low_kid hlows h))
    have hfge : (0 : Int) ≤ (i : Int) := by omega
    have hfn : ¬ (i : Int) < 0 := by omega
    have hpi : (p : Int) < (tb[i].length : Int) := by omega
    have hp0 : (0 : Int) ≤ (p : Int) := by omega
    have hii : (i : Int) < (tb.length : Int) := by omega
    replace t1 := hx.cell t1
    replace t2 := hx.cell t2
    replace hks := hks.ext hx
    generalize tb[i][p] = res at t2 r1 r2
    generalize tb[i].length = N at t1 hpi
    obtain ⟨i0, hi0, hz0, hz1, hz2⟩ := info_parts infoInt
    clear ih hT hE ht ht0 hm he ho hlow hsig hlen hsg hV hVr p1 p2 p3 p5 p6 hres hI hov hlows hf hrc r1 r2
    go_enter Try.func19, Try.ntmps19
    go_wp2_with fail
    rw [← hW]
    clear hW
    go_loopw [7, 20] (fun o j wr => ∃ k : Nat, k ≤ ks.length ∧ j = .int .i64 k ∧ GRow eltInt 3 W.heap.size wr o (V.take k) ∧ Ext W wr) (fun _ j _ => ks.length - (intOf j).toNat)
    case atStart => exact ⟨0, Nat.zero_le _, rfl, GRow.nil, Below.refl _ _⟩
    case round =>
      obtain ⟨k, hkk, rfl, hrow, hext⟩ := hrel
      replace k0 := hext.cell k0
      replace k1 := hext.cell k1
      replace k2 := hext.cell k2
      replace k3 := hext.cell k3
      by_cases hlt : k < ks.length
      · have hlt' : (k : Int) < (ks.length : Int) := by omega
        obtain ⟨bk, ok, ak, ck, rfl, g1, g2, hi⟩ := (hks.ext hext).look hlt
        have HVT := Lib.hid (HVA.out k hlt)
        obtain ⟨v1, v2⟩ := HVR.out k hlt
        obtain ⟨M, hM⟩ : ∃ M, M = V.take k := ⟨_, rfl⟩
        have hMl : M.length = k := by rw [hM, List.length_take]; omega
        rw [← hM] at hrow HVT
        have HML := Lib.hid hMl
        clear hM hMl
        have hA := ext_alloc wr (.cells #[.int .i64 ks[k].f, .slice ak ks[k].ks.length ck] 30)
        obtain ⟨m0, m1⟩ := cells2 wr (.int .i64 ks[k].f) (.slice ak ks[k].ks.length ck) 30
        have HC := Lib.hid (HIH.out k hlt _ ((hx.trans hext).trans hA) _ _ (hi.ext hA))
        have n0 := hA.cell k0
        have n1 := hA.cell k1
        generalize Tm.val s tb env ks[k] = r at HC v1 v2 HVT
        generalize ks[k].f = fk at *
        generalize ks[k].ks.length = lk at *
        obtain ⟨ao, co, rfl, hmc⟩ := hrow.form
        clear hi
        go_wp2_with (first | (go_at_call 19; refine (HC.out).mono ?_; rintro e w1 ⟨rfl, hx1⟩) | (at_builtin; refine wpList_append_row rfl _ _ _ rfl 3 i0 _ 8 Try.underlying31 hi0 hz0 hz1 hz2 rfl (by decide) W.heap.size (.slice ao M.length co) M rfl wr hrow (hA.trans (hx1.trans (ext_alloc _ _))) w1.heap.size rfl _ _ (heap_alloc_new _ _) r ⟨rfl, v1, v2⟩ (by have := HML.out; simp only [maxLen]; omega) (by have := HML.out; omega) (by have := hext.size; have := hA.size; have := hx1.size; simp; omega) ?_; intro g2 cap2 w2 hrow2 hgrow2 hat2 hlt2; have hx2 := Ext.append hext hrow (hA.trans (hx1.trans (ext_alloc _ _))) hgrow2))
        go_roundw
        case rel => exact ⟨k + 1, by omega, by go_num, by rw [HVT.out]; exact hrow2, hx2⟩
        case measure => simp [intOf]; omega
      · have hlt' : ¬ (k : Int) < (ks.length : Int) := by omega
        have hke : V.take k = V := List.take_of_length_le (by omega)
        rw [hke] at hrow
        clear hke
        obtain ⟨ao, co, rfl, hmc, hat⟩ := hrow.ints
        have HP := Lib.hid (fun w' (h : Ext wr w') => HPL.out w' ao co (hat.isInts.ext h))
        replace t1 := hext.cell t1
        replace t2 := hext.cell t2
        clear hat hrow HVA HVR HIH HPL hks hVl
        go_wp2_with fail
        refine wp_region_noPanic ?_
        refine wp_region_X (by kernel_rfl) (by kernel_rfl) (fun _ _ _ _ _ h => h) ?_
        iterate 13 (first | (refine wpX_skip (by rfl) ?_; simp only [Act.put, List.setIfInBounds_toArray, List.set_cons_zero, List.set_cons_succ]) | (apply wpX_want; (focus rfl); (focus (intro v1 hv; have e0 := hv.cell k0; have e1 := hv.cell k1; have e2 := hv.cell k2; have e3 := hv.cell t1; have e4 := hv.cell t2; go_simp; first | done | rfl | exact ⟨rfl, Below.refl _ _⟩ | exact Below.refl _ _ | (with_reducible exact HP.out _ hv))); simp only [Act.put, List.setIfInBounds_toArray, List.set_cons_zero, List.set_cons_succ]))
        refine wpX_nil fun w' hE => NoPanic.normal ?_
        go_wp2_with fail
        go_ret
        exact ⟨rfl, hx.trans (hext.trans hE)⟩
end Go.Proofs.Ytapoedcmhdlpfaa
