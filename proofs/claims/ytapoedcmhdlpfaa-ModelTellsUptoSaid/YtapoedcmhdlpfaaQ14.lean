/- Plain: a clause's variables; when a clause holds; all values, gone over in two orders. No condition.
What the reference's Value and vars return. Conditions: an interpretation that may be, terms that may be over the signature; 48 variables. -/
import Derived.Test.YtapoedcmhdlpfaaQ7
import Derived.Test.YtapoedcmhdlpfaaQ12
import Derived.Test.YtapoedcmhdlpfaaQ13
import Derived.Test.YtapoedcmhdlpfaaQ0
namespace Go.Proofs.Ytapoedcmhdlpfaa
open Go.ChangeShapes Go.WideShapes Go.ChangeAt Go.RowKit
def zeroEnv : Int → Int := fun _ => 0
theorem told_congr : ∀ (vs : List Int) (row : List Nat) (env env' : Int → Int) (v : Int), (v ∈ vs ∧ vs.length ≤ row.length) ∨ env v = env' v → told vs row env v = told vs row env' v
  | [], row, env, env', v, h => by
    rcases h with ⟨h, -⟩ | h
    · cases h
    · rw [told_nil, told_nil, h]
  | x :: vs, [], env, env', v, h => by
    rcases h with ⟨-, h⟩ | h
    · simp at h
    · simpa [told] using h
  | x :: vs, d :: row, env, env', v, h => by
    show told vs row (fun y => if y = x then (d : Int) else env y) v = told vs row (fun y => if y = x then (d : Int) else env' y) v
    by_cases hv : v = x
    · exact told_congr vs row _ _ v (.inr (by rw [if_pos hv, if_pos hv]))
    · refine told_congr vs row _ _ v ?_
      rcases h with ⟨h, hl⟩ | h
      · exact .inl ⟨(List.mem_cons.1 h).resolve_left hv, by simpa using hl⟩
      · exact .inr (by rw [if_neg hv, if_neg hv]; exact h)
theorem zip_take_left : ∀ (vs : List Int) (row : List Nat) (j : Nat), (vs.take j).zip row = (vs.zip row).take j
  | [], row, j => by simp
  | v :: vs, [], j => by simp
  | v :: vs, d :: row, 0 => by simp
  | v :: vs, d :: row, j + 1 => by simp only [List.take_succ_cons, List.zip_cons_cons]; rw [zip_take_left vs row j]
theorem told_step {vs : List Int} {row : List Nat} {env : Int → Int} {k : Nat} (h1 : k < vs.length) (h2 : k < row.length) : told (vs.take (k + 1)) row env = fun x => if x = vs[k] then (row[k] : Int) else told (vs.take k) row env x := by
  have h3 : (vs.take (k + 1)).zip row = (vs.take k).zip row ++ [(vs[k], row[k])] := by
    have h4 : ∀ j, (vs.take j).zip row = (vs.zip row).take j := fun j => zip_take_left vs row j
    have h5 : k < (vs.zip row).length := by rw [List.length_zip]; omega
    rw [h4, h4, List.take_succ_eq_append_getElem h5, List.getElem_zip]
  funext x
  unfold told
  rw [h3, List.foldl_append]
  rfl
theorem told_range {s : Nat} (hs : 1 ≤ s) : ∀ (vs : List Int) (row : List Nat) (env : Int → Int), (∀ x ∈ row, x < s) → (∀ v, 0 ≤ env v ∧ env v < (s : Int)) → ∀ v, 0 ≤ told vs row env v ∧ told vs row env v < (s : Int)
  | [], row, env, _, he, v => by rw [told_nil]; exact he v
  | x :: vs, [], env, _, he, v => by simpa [told] using he v
  | x :: vs, d :: row, env, hr, he, v => by
    refine told_range hs vs row (fun y => if y = x then (d : Int) else env y) (fun y hy => hr y (List.mem_cons_of_mem _ hy)) (fun y => ?_) v
    have := hr d List.mem_cons_self
    have := he y
    split <;> omega
theorem zero_range {s : Nat} (hs : 1 ≤ s) (v : Int) : 0 ≤ zeroEnv v ∧ zeroEnv v < (s : Int) := by unfold zeroEnv; omega
/-- between two rounds, all but the told ones are zero -/
theorem told_zero {vs : List Int} {row : List Nat} {env : Int → Int} (hl : vs.length ≤ row.length) (h : ∀ v, v ∉ vs → env v = 0) : told vs row env = told vs row zeroEnv := by
  funext v
  refine told_congr _ _ _ _ _ ?_
  by_cases hv : v ∈ vs
  · exact .inl ⟨hv, hl⟩
  · exact .inr (h v hv)

/-- what is told of a term, of values of its variables -/
def termSays (l : List Sy) (sz : Int) (tb : List (List Int)) (t : Tm) (vals : List Int) : Int × Int :=
  if modCheck l sz tb = 0 ∧ termCheck l t = 0 then
    (if (t.join []).all (fun v => decide (v < vals.length) && cellOk sz (vals.getD v.toNat 0)) then (t.val sz tb (fun v => if v ∈ t.join [] then vals.getD v.toNat 0 else 0), 0) else (0, 4))
  else (0, 2)

/-- a clause's variables, each once, rising -/
def clVarsTo (c : List Lt) (l : List Int) : List Int := c.foldl (fun l x => x.r.join (x.l.join l)) l
def clVars (c : List Lt) : List Int := clVarsTo c []
theorem clVars_step {c : List Lt} {k : Nat} (h : k < c.length) : clVars (c.take (k + 1)) = c[k].r.join (c[k].l.join (clVars (c.take k))) := by
  unfold clVars clVarsTo
  rw [List.take_succ_eq_append_getElem h, List.foldl_append]; rfl
theorem clVarsTo_spec : ∀ (c : List Lt) (l : List Int), l.Pairwise (· < ·) → (clVarsTo c l).Pairwise (· < ·) ∧ ∀ v, v ∈ clVarsTo c l ↔ v ∈ l ∨ ∃ x ∈ c, v ∈ x.l.vl ∨ v ∈ x.r.vl
  | [], l, h => ⟨h, fun v => by simp [clVarsTo]⟩
  | x :: c, l, h => by
    obtain ⟨h1, h2⟩ := join_spec x.l l h
    obtain ⟨h3, h4⟩ := join_spec x.r _ h1
    obtain ⟨h5, h6⟩ := clVarsTo_spec c _ h3
    refine ⟨h5, fun v => ?_⟩
    rw [show clVarsTo (x :: c) l = clVarsTo c (x.r.join (x.l.join l)) from rfl, h6, h4, h2]
    simp only [List.mem_cons, exists_eq_or_imp, or_assoc]
theorem clVars_spec (c : List Lt) : (clVars c).Pairwise (· < ·) ∧ ∀ v, v ∈ clVars c ↔ ∃ x ∈ c, v ∈ x.l.vl ∨ v ∈ x.r.vl := by
  obtain ⟨h1, h2⟩ := clVarsTo_spec c [] List.Pairwise.nil
  exact ⟨h1, fun v => by rw [show clVars c = clVarsTo c [] from rfl, h2]; simp⟩

/-- does one of a clause's literals hold? -/
def litHolds (sz : Int) (tb : List (List Int)) (env : Int → Int) (x : Lt) : Bool := (x.l.val sz tb env == x.r.val sz tb env) != x.neg
def clHolds (sz : Int) (tb : List (List Int)) (env : Int → Int) (c : List Lt) : Bool := c.any (litHolds sz tb env)
/-- does it hold for all values? -/
def clTrue (s : Nat) (tb : List (List Int)) (c : List Lt) : Bool := (List.range (s ^ (clVars c).length)).all fun k => clHolds s tb (told (clVars c) (digs s (clVars c).length k) zeroEnv) c
/-- all rows, as a counter tells them -/
def rowsL (s n : Nat) : List (List Nat) := (List.range (s ^ n)).map fun k => (digs s n k).reverse
theorem rowsL_mem {s : Nat} (hs : 0 < s) {n : Nat} {row : List Nat} (h : row ∈ rowsL s n) : row.length = n ∧ ∀ x ∈ row, x < s := by
  unfold rowsL at h
  obtain ⟨k, -, rfl⟩ := List.mem_map.1 h
  exact ⟨by rw [List.length_reverse, digs_length], fun x hx => digs_lt hs n k x (List.mem_reverse.1 hx)⟩
theorem all_rows {s : Nat} (hs : 0 < s) (n : Nat) (p : List Nat → Bool) : (rowsL s n).all p = true ↔ ∀ row : List Nat, row.length = n → (∀ x ∈ row, x < s) → p row = true := by
  rw [List.all_eq_true]
  constructor
  · intro h row hl hr
    obtain ⟨k, hk, e⟩ := digs_all hs row.reverse fun x hx => hr x (List.mem_reverse.1 hx)
    rw [List.length_reverse, hl] at hk e
    refine h row ?_
    unfold rowsL
    exact List.mem_map.2 ⟨k, List.mem_range.2 hk, by rw [e, List.reverse_reverse]⟩
  · intro h row hm
    obtain ⟨h1, h2⟩ := rowsL_mem hs hm
    exact h row h1 h2
theorem all_digs {s : Nat} (hs : 0 < s) (n : Nat) (p : List Nat → Bool) : ((List.range (s ^ n)).all fun k => p (digs s n k)) = true ↔ ∀ row : List Nat, row.length = n → (∀ x ∈ row, x < s) → p row = true := by
  rw [List.all_eq_true]
  constructor
  · intro h row hl hr
    obtain ⟨k, hk, e⟩ := digs_all hs row hr
    rw [hl] at hk e
    have := h k (List.mem_range.2 hk)
    rwa [e] at this
  · intro h k _
    exact h _ (digs_length s n k) (digs_lt hs n k)
/-- it does not matter in which order all values are gone over -/
theorem clTrue_rows {s : Nat} (hs : 0 < s) (tb : List (List Int)) (c : List Lt) : clTrue s tb c = (rowsL s (clVars c).length).all fun row => clHolds s tb (told (clVars c) row zeroEnv) c := by
  rw [Bool.eq_iff_iff, all_rows hs]
  exact all_digs hs _ fun row => clHolds s tb (told (clVars c) row zeroEnv) c
/-- what is told of a clause -/
def clauseSays (l : List Sy) (sz : Int) (tb : List (List Int)) (c : List Lt) : Bool × Int :=
  if modCheck l sz tb = 0 ∧ clauseCheck l c = 0 then (if 8 < (clVars c).length then (false, 3) else (clTrue sz.toNat tb c, 0)) else (false, 2)

/-- so far the last numbers are at their end -/
theorem incs_over {s : Nat} (hs : 0 < s) : ∀ (a : List Nat) (b : List Nat), (∀ x ∈ a, ¬ x + 1 < s) → incs s (a ++ b) = (List.replicate a.length 0 ++ (incs s b).1, (incs s b).2)
  | [], b, _ => rfl
  | x :: a, b, h => by
    have h1 := h x List.mem_cons_self
    rw [List.cons_append, incs, if_neg h1, incs_over hs a b fun y hy => h y (List.mem_cons_of_mem _ hy)]
    simp [List.replicate_succ]
theorem rowsL_length (s n : Nat) : (rowsL s n).length = s ^ n := by unfold rowsL; rw [List.length_map, List.length_range]
theorem rowsL_at {s n k : Nat} (h : k < (rowsL s n).length) : (rowsL s n)[k] = (digs s n k).reverse := by simp [rowsL]
end Go.Proofs.Ytapoedcmhdlpfaa
namespace Go.Proofs.Ytapoedcmhdlpfaa
open Go.ChangeShapes Go.WideShapes Go.ChangeAt Go.RowKit
attribute [local go_sem] undef
/-- a row holds what variables are -/
def EnvRow (w : World) (eb : Nat) (env : Int → Int) : Prop := ∀ v : Nat, v < 48 → w.cell? ⟨eb, v, none⟩ = some (.int .i64 (env v))
theorem EnvRow.ext {w w' : World} {eb : Nat} {env : Int → Int} (h : EnvRow w eb env) (hx : Ext w w') : EnvRow w' eb env := fun v hv => hx.cell (h v hv)

set_option maxHeartbeats 4000000 in
set_option maxRecDepth 100000 in
theorem refValue_any {l : List Sy} {s : Nat} {tb : List (List Int)} (hm : modCheck l s tb = 0) {env : Int → Int} (he : ∀ v, 0 ≤ env v ∧ env v < (s : Int)) (t : Tm) :
    ∀ (b : Bool) (w : World) (ta : Option Addr) (tc eb : Nat) (x y : Value), IsTabs w ta tb → EnvRow w eb env → IsTm w x y t → t.over l b = true → t.low 48 = true →
    Calls Try.prog 22 #[.agg #[.int .i64 s, .slice ta tb.length tc], .slice (some ⟨eb, 0, none⟩) 48 48, .agg #[x, y]] w fun e w' => e = .returned (.int .i64 (t.val s tb env)) ∧ Ext w w' := by
  induction t using Tm.ind with
  | h f ks ih =>
    intro b w ta tc eb x y hT hE ht ho hlow
    obtain ⟨hsg, ⟨s', hs', hs1, hs3⟩, hlen, -, -⟩ := mod_parts hm
    obtain rfl : s = s' := by omega
    obtain ⟨-, -, -, hsig⟩ := sig_facts hsg
    have ht0 := ht
    obtain ⟨a', c', rfl, rfl, hf1, hf2, -, hks⟩ := ht.form
    simp only [Tm.f, Tm.ks] at *
    obtain ⟨W, hW⟩ : ∃ W, W = (w.alloc (.cells #[.int .i64 s, .slice ta tb.length tc] 27)).alloc (.cells #[.int .i64 f, .slice a' ks.length c'] 30) := ⟨_, rfl⟩
    have hx : Ext w W := by subst hW; go_grown
    have k0 : W.cell? ⟨w.heap.size, 0, none⟩ = some (.int .i64 s) := by subst hW; go_simp
    have k1 : W.cell? ⟨w.heap.size, 1, none⟩ = some (.slice ta tb.length tc) := by subst hW; go_simp
    have k2 : W.cell? ⟨w.heap.size + 1, 0, none⟩ = some (.int .i64 f) := by subst hW; go_simp
    have k3 : W.cell? ⟨w.heap.size + 1, 1, none⟩ = some (.slice a' ks.length c') := by subst hW; go_simp
    by_cases hf : f < 0
    · obtain ⟨g1, -⟩ := low_var hlow hf
      obtain ⟨v, hv⟩ : ∃ v : Nat, -1 - f = v := ⟨(-1 - f).toNat, by omega⟩
      have hc := hE v (by omega)
      have hcl := cell_lt hc
      simp only at hcl
      have hval : Tm.val s tb env (.mk f ks) = env v := by simp only [Tm.val]; rw [if_pos hf, hv]
      rw [hval]
      have hwv : IntKind.i64.wrap (-1 - f) = (v : Int) := by rw [hv]; exact IntWalk.i64_in _ (by omega)
      have hv48 : (v : Int) < 48 := by omega
      have hv0 : (0 : Int) ≤ (v : Int) := by omega
      clear hval ih hsig hlen hsg hm he ho hlow ht ht0 hT hE hks
      generalize env v = r at hc
      go_enter Try.func22, Try.ntmps22
      go_wp2_with fail
      rw [← hW]
      go_ret
      exact ⟨rfl, hx⟩
    obtain ⟨hfl, har, -, hov⟩ := over_parts ho hf
    have hlows := low_fun hlow hf
    have hk6 : ks.length ≤ 6 := by have := (hsig _ hfl).2; omega
    obtain ⟨V, hV⟩ : ∃ V, V = Tm.vals s tb env ks := ⟨_, rfl⟩
    have hVl : V.length = ks.length := by rw [hV, vals_length]
    have hVr : ∀ x ∈ V, 0 ≤ x ∧ x < (s : Int) := by rw [hV]; exact vals_range hm he hov
    obtain ⟨i, rfl⟩ : ∃ i : Nat, f = i := ⟨f.toNat, by omega⟩
    simp only [Int.toNat_natCast] at hfl har
    obtain ⟨p1, p, p2, p3, p4, p5, p6⟩ := val_place hm hfl (row := V) (by rw [hVl]; exact har.symm) hVr
    have hres : Tm.val s tb env (.mk i ks) = tb[i][p] := val_fun hf p1 p2 (by rw [← hV]; exact p3)
    obtain ⟨bt, ot, ra, rc, rfl, t1, hrc, hI⟩ := hT i p1
    obtain ⟨r1, r2, br, ob, rfl, t2⟩ := hI p p2
    rw [hres]
    have HPB := Lib.hid (fun k => placeAt_bound hs1 hs3 (row := V) (by omega) hVr k)
    have HP := Lib.hid p3
    have HVA := Lib.hid (fun k (h : k < ks.length) => show placeAt s (V.take (k + 1)) = placeAt s (V.take k) * s + Tm.val s tb env ks[k] by rw [hV, vals_take h, placeAt_snoc])
    have HVR := Lib.hid (fun k (h : k < ks.length) => show 0 ≤ Tm.val s tb env ks[k] ∧ Tm.val s tb env ks[k] < (s : Int) by
      have h1 := hVr (V[k]'(by omega)) (List.getElem_mem _)
      have h2 : V[k]'(by omega) = Tm.val s tb env ks[k] := by simp only [hV]; exact vals_at _ _ _ _ _ h
      rw [h2] at h1; exact h1)
    have HIH := Lib.hid (fun k (h : k < ks.length) w' (hx' : Ext w w') x y (hi : IsTm w' x y ks[k]) => ih ks[k] (List.getElem_mem h) false w' (some ⟨bt, ot, none⟩) tc eb x y (hT.ext hx') (hE.ext hx') hi (overs_at hov h) (low_kid hlows h))
    have hfge : (0 : Int) ≤ (i : Int) := by omega
    have hfn : ¬ (i : Int) < 0 := by omega
    have hpi : (p : Int) < (tb[i].length : Int) := by omega
    have hp0 : (0 : Int) ≤ (p : Int) := by omega
    have hii : (i : Int) < (tb.length : Int) := by omega
    replace t1 := hx.cell t1
    replace t2 := hx.cell t2
    replace hks := hks.ext hx
    generalize tb[i][p] = res at t2 r1 r2
    generalize tb[i].length = N at t1 hpi
    have HVl := Lib.hid hVl
    clear ih hT hE ht ht0 hm he ho hlow hsig hlen hsg hV hVr hVl p1 p2 p3 p5 p6 hres hI hov hlows hf hrc r1 r2
    go_enter Try.func22, Try.ntmps22
    go_wp2_with fail
    rw [← hW]
    clear hW
    go_loopw [7, 8] (fun o j wr => ∃ k : Nat, k ≤ ks.length ∧ j = .int .i64 k ∧ o = .int .i64 (placeAt s (V.take k)) ∧ Ext W wr) (fun _ j _ => ks.length - (intOf j).toNat)
    case atStart => exact ⟨0, Nat.zero_le _, rfl, by simp [placeAt], Below.refl _ _⟩
    case round =>
      obtain ⟨k, hkk, rfl, rfl, hext⟩ := hrel
      replace k0 := hext.cell k0
      replace k1 := hext.cell k1
      replace k2 := hext.cell k2
      replace k3 := hext.cell k3
      by_cases hlt : k < ks.length
      · have hlt' : (k : Int) < (ks.length : Int) := by omega
        obtain ⟨bk, ok, ak, ck, rfl, g1, g2, hi⟩ := (hks.ext hext).look hlt
        have HVT := Lib.hid (HVA.out k hlt)
        have HW := Lib.hid (place_wrapI hs3 (HPB.out k) (HVR.out k hlt))
        have HC := Lib.hid (fun w' (h : Ext wr w') => HIH.out k hlt w' ((hx.trans hext).trans h) _ _ (hi.ext h))
        generalize placeAt s (V.take k) = z at *
        generalize Tm.val s tb env ks[k] = r at HC HW HVT
        generalize ks[k].f = fk at *
        generalize ks[k].ks.length = lk at *
        clear hi
        go_wp2_with fail
        refine wp_region_noPanic ?_
        refine wp_region_X (by kernel_rfl) (by kernel_rfl) (fun _ _ _ _ _ h => h) ?_
        iterate 14 (first | (refine wpX_skip (by rfl) ?_; simp only [Act.put, List.setIfInBounds_toArray, List.set_cons_zero, List.set_cons_succ]) | (apply wpX_want; (focus rfl); (focus (intro v1 hv; have e0 := hv.cell k0; have e1 := hv.cell k1; have e2 := hv.cell k3; have e3 := hv.cell g1; have e4 := hv.cell g2; go_simp; first | done | rfl | exact ⟨rfl, Below.refl _ _⟩ | exact Below.refl _ _ | (with_reducible exact HC.out _ hv))); simp only [Act.put, List.setIfInBounds_toArray, List.set_cons_zero, List.set_cons_succ]))
        refine wpX_nil fun w' hE => NoPanic.normal ?_
        go_wp2_with fail
        go_roundw
        case rel => exact ⟨k + 1, by omega, by go_num, by rw [HVT.out]; first | rfl | rw [HW.out] | exact congrArg _ HW.out, hext.trans hE⟩
        case measure => simp [intOf]; omega
      · have hlt' : ¬ (k : Int) < (ks.length : Int) := by omega
        have hke : V.take k = V := List.take_of_length_le (by have := HVl.out; omega)
        rw [hke, HP.out]
        replace t1 := hext.cell t1
        replace t2 := hext.cell t2
        clear hke HVA HVR HIH HPB hks
        go_wp2_with fail
        go_ret
        exact ⟨rfl, hx.trans (by first | exact hext | exact hext.drewN _)⟩

/-- marks at variables -/
def markL (L : List Bool) (vs : List Int) : List Bool := vs.foldl (fun L v => L.set v.toNat true) L
theorem markL_length (vs : List Int) : ∀ L : List Bool, (markL L vs).length = L.length := by
  induction vs with
  | nil => intro L; rfl
  | cons v vs ih => intro L; show (markL (L.set v.toNat true) vs).length = _; rw [ih, List.length_set]
theorem markL_append (L : List Bool) (a b : List Int) : markL L (a ++ b) = markL (markL L a) b := by unfold markL; rw [List.foldl_append]
theorem vls_take {ks : List Tm} : ∀ {k : Nat} (h : k < ks.length), Tm.vls (ks.take (k + 1)) = Tm.vls (ks.take k) ++ ks[k].vl := by
  induction ks with
  | nil => intro k h; simp at h
  | cons t ts ih =>
    intro k h
    cases k with
    | zero => simp [Tm.vls]
    | succ k =>
      simp only [List.take_succ_cons, Tm.vls, List.getElem_cons_succ]
      rw [ih (by simpa using h), List.append_assoc]
theorem AtTms.look {P : Nat → Prop} {w : World} : ∀ {ts : List Tm} {a : Option Addr}, AtTms P w a ts → ∀ {i : Nat} (hi : i < ts.length),
    ∃ b o a' c', a = some ⟨b, o, none⟩ ∧ P b ∧ w.cell? ⟨b, o + i * 2, none⟩ = some (.int .i64 ts[i].f) ∧ w.cell? ⟨b, o + i * 2 + 1, none⟩ = some (.slice a' ts[i].ks.length c') ∧ AtTm P w (.int .i64 ts[i].f) (.slice a' ts[i].ks.length c') ts[i]
  | [], _, _, _, hi => by simp at hi
  | .mk f ks :: ts, a, h, i, hi => by
    simp only [AtTms] at h
    obtain ⟨b, o, x, s, rfl, h0, h1, h2, h3, h4⟩ := h
    cases i with
    | zero =>
      have h3' := h3
      simp only [AtTm] at h3
      obtain ⟨rfl, -, -, a', c', rfl, -⟩ := h3
      exact ⟨b, o, a', c', rfl, h0, by simpa [Tm.f] using h1, by simpa [Tm.ks] using h2, h3'⟩
    | succ i =>
      obtain ⟨b', o', a', c', e, -, g1, g2, g3⟩ := AtTms.look h4 (i := i) (by simpa using hi)
      injection e with e
      injection e with e1 e2 _
      subst e1; subst e2
      refine ⟨b, o, a', c', rfl, h0, ?_, ?_, by simpa using g3⟩
      · rw [show o + (i + 1) * 2 = o + 2 + i * 2 by omega]; exact g1
      · rw [show o + (i + 1) * 2 + 1 = o + 2 + i * 2 + 1 by omega]; exact g2
theorem AtTms.chg {P : Nat → Prop} {S : List Nat} {w w' : World} {ts : List Tm} {a : Option Addr} (h : AtTms P w a ts) (hx : Chg S w w') (hS : ∀ i ∈ S, ¬ P i) : AtTms P w' a ts :=
  h.of_cells (fun _ h _ => h) fun _p _ hB hp => hx.cell hp (fun hm => hS _ hm hB)
set_option maxHeartbeats 4000000 in
set_option maxRecDepth 100000 in
theorem refMarks_any (t : Tm) : ∀ (w : World) (ib : Nat) (L : List Bool) (x y : Value), L.length = 48 → Own w ib (L.map Value.bool) → AtTm (fun b => b ≠ ib) w x y t → t.low 48 = true → t.size ≤ 2097152 →
    Calls Try.prog 58 #[.agg #[x, y], .slice (some ⟨ib, 0, none⟩) 48 48] w fun e w' => e = .returned (.tuple #[]) ∧ Own w' ib ((markL L t.vl).map Value.bool) ∧ Chg [ib] w w' := by
  induction t using Tm.ind with
  | h f ks ih =>
    intro w ib L x y hL hO ht hlow hsz
    simp only [Tm.size] at hsz
    have hkl := length_le_sizes ks
    simp only [AtTm] at ht
    obtain ⟨rfl, hf1, hf2, a', c', rfl, -, hks⟩ := ht
    obtain ⟨W, hW⟩ : ∃ W, W = w.alloc (.cells #[.int .i64 f, .slice a' ks.length c'] 30) := ⟨_, rfl⟩
    have hx : Ext w W := by subst hW; go_grown
    obtain ⟨k2, k3⟩ := cells2 w (.int .i64 f) (.slice a' ks.length c') 30
    rw [← hW] at k2 k3
    have hib : ib < w.heap.size := by
      have := (hO 0 (.bool (L[0]'(by omega))) (by rw [List.getElem?_map, List.getElem?_eq_getElem (by omega)]; rfl)).1
      exact cell_lt this
    have hne : w.heap.size ≠ ib := by omega
    rw [vl_mk]
    by_cases hf : f < 0
    · obtain ⟨g1, rfl⟩ := low_var hlow hf
      obtain ⟨v, hv⟩ : ∃ v : Nat, -1 - f = v := ⟨(-1 - f).toNat, by omega⟩
      simp only [List.length_nil] at hW k3
      have hOW := hO.ext hx
      obtain ⟨c1, c2⟩ := hO v (.bool (L[v]'(by omega))) (by rw [List.getElem?_map, List.getElem?_eq_getElem (by omega)]; rfl)
      have hwv : IntKind.i64.wrap (-1 - f) = (v : Int) := by rw [hv]; exact IntWalk.i64_in _ (by omega)
      have hv48 : (v : Int) < 48 := by omega
      have hv0 : (0 : Int) ≤ (v : Int) := by omega
      have HMK := Lib.hid (show (markL L ((if f < 0 then [-1 - f] else []) ++ Tm.vls [])).map Value.bool = (L.map Value.bool).set v (.bool true) by
        rw [if_pos hf, hv]; simp [markL, Tm.vls, List.map_set])
      obtain ⟨W', hW'⟩ : ∃ W', W' = (w.setCell ⟨ib, v, none⟩ (.bool true)).alloc (.cells #[.int .i64 f, .slice a' 0 c'] 30) := ⟨_, rfl⟩
      have HOW := Lib.hid (show Own W' ib ((L.map Value.bool).set v (.bool true)) by rw [hW']; exact (hO.set (i := v) (by rw [List.length_map]; omega) (.bool true)).ext (ext_alloc _ _))
      have HX := Lib.hid (show Chg [ib] w W' by rw [hW']; exact ((Chg.refl [ib] w).setCell (p := ⟨ib, v, none⟩) (.bool true) (.inl (by simp))).alloc _)
      rw [HMK.out]
      clear HMK
      generalize L[v]'(by omega) = old at c1
      clear ih hks hO hOW hlow
      go_enter Try.func58, Try.ntmps58
      go_wp2_with fail
      rw [← hW']
      go_returns
      exact ⟨rfl, HOW.out, HX.out⟩
    · have hlows := low_fun hlow hf
      rw [if_neg hf, List.nil_append]
      have HIH := Lib.hid (fun k (h : k < ks.length) (w' : World) (L : List Bool) (x y : Value) (hL : L.length = 48) (hO : Own w' ib (L.map Value.bool)) (hi : AtTm (fun b => b ≠ ib) w' x y ks[k]) => ih ks[k] (List.getElem_mem h) w' ib L x y hL hO hi (low_kid hlows h) (by have := size_le_sizes h; omega))
      have hksW := hks.of_cells (Q := fun b => b ≠ ib) (w' := W) (fun _ h _ => h) (fun _ _ _ hp => hx.cell hp)
      have hOW := hO.ext hx
      clear ih hks hO hlow hlows
      go_enter Try.func58, Try.ntmps58
      go_wp2_with fail
      rw [← hW]
      clear hW
      go_loopw [4] (fun i wr => ∃ k : Nat, k ≤ ks.length ∧ i = .int .i64 k ∧ Own wr ib ((markL L (Tm.vls (ks.take k))).map Value.bool) ∧ Chg [ib] W wr) (fun i _ => ks.length - (intOf i).toNat)
      case atStart => exact ⟨0, Nat.zero_le _, rfl, hOW, Chg.refl _ _⟩
      case round =>
        obtain ⟨k, hkk, rfl, hO, hch⟩ := hrel
        replace k2 := hch.cell k2 (by simpa using hne)
        replace k3 := hch.cell k3 (by simpa using hne)
        by_cases hlt : k < ks.length
        · have hlt' : (k : Int) < (ks.length : Int) := by omega
          obtain ⟨bk, ok, ak, ck, rfl, hbk, g1, g2, hi⟩ := (hksW.chg hch (by simp)).look hlt
          have HC := Lib.hid (HIH.out k hlt wr _ _ _ (by rw [markL_length]; exact hL) hO hi)
          have HVT := Lib.hid (show markL L (Tm.vls (ks.take (k + 1))) = markL (markL L (Tm.vls (ks.take k))) ks[k].vl by rw [vls_take hlt, markL_append])
          generalize markL L (Tm.vls (ks.take k)) = M at HC HVT
          generalize ks[k].f = fk at *
          generalize ks[k].ks.length = lk at *
          clear hi hO
          go_wp2_with (go_at_call 58; refine (HC.out).mono ?_; rintro e w1 ⟨rfl, ho1, hc1⟩)
          go_roundw
          case rel => exact ⟨k + 1, by omega, by go_num, by rw [HVT.out]; exact ho1, hch.trans hc1⟩
          case measure => simp [intOf]; omega
        · have hlt' : ¬ (k : Int) < (ks.length : Int) := by omega
          have hke : ks.take k = ks := List.take_of_length_le (by omega)
          rw [hke] at hO
          have HO := Lib.hid hO
          clear hke hO
          go_wp2_with fail
          go_returns
          exact ⟨rfl, HO.out, (Chg.of_ext hx).trans hch⟩
end Go.Proofs.Ytapoedcmhdlpfaa
