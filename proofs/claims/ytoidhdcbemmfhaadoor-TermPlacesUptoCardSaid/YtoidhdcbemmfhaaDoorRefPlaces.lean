/- What Places of the reference of layer 2 returns: all places in order. -/
import Derived.Test.YtoidhdcbemmfhaaDoorRefCopy
import Derived.Test.YtoidhdcbemmfhaaDoorPlace
namespace Go.Proofs.YtoidhdcbemmfhaaDoor
open Go.ChangeShapes Go.WideShapes Go.ChangeAt Go.RowKit

theorem infoPlace : (Tryd.prog.info? 53).map (fun i => (i.zero, i.size, i.bytes)) = some (some (.agg #[.slice none 0 0, .int .i64 0, .slice none 0 0]), 3, 56) := by kernel_rfl
theorem placesL_take {ks : List Tm} : ∀ (k i : Nat) (_ : k < ks.length), Tm.placesL i (ks.take (k + 1)) = Tm.placesL i (ks.take k) ++ (ks[k].places.map fun q => (((i + k : Nat) : Int) :: q.1, q.2)) := by
  induction ks with
  | nil => intro k i h; simp at h
  | cons t ts ih =>
    intro k i h
    cases k with
    | zero => simp [Tm.placesL]
    | succ k =>
      simp only [List.take_succ_cons, Tm.placesL, List.getElem_cons_succ]
      rw [ih k (i + 1) (by simpa using h), List.append_assoc]
      rw [show i + 1 + k = i + (k + 1) by omega]

/-- block g holds the places l; all that belongs to them lies in blocks from h0 on, below h1 -/
def Laid (g h0 h1 : Nat) (w : World) (l : List (List Int × Tm)) : Prop :=
  ∀ j (hj : j < l.length), ∃ pa pc x s, w.cell? ⟨g, j * 3, none⟩ = some (.slice pa l[j].1.length pc) ∧ w.cell? ⟨g, j * 3 + 1, none⟩ = some x ∧ w.cell? ⟨g, j * 3 + 2, none⟩ = some s ∧ l[j].1.length ≤ pc ∧
    AtInts (fun b => h0 ≤ b ∧ b < h1) w pa l[j].1 ∧ AtTm (fun b => h0 ≤ b ∧ b < h1) w x s l[j].2
theorem Laid.of_cells {g h0 h1 : Nat} {w w' : World} {l : List (List Int × Tm)} (h : Laid g h0 h1 w l) (hg : h0 ≤ g ∧ g < h1) (hK : ∀ p v, h0 ≤ p.block ∧ p.block < h1 → w.cell? p = some v → w'.cell? p = some v) : Laid g h0 h1 w' l := fun j hj => by
  obtain ⟨pa, pc, x, s, e1, e2, e3, e4, e5, e6⟩ := h j hj
  exact ⟨pa, pc, x, s, hK _ _ hg e1, hK _ _ hg e2, hK _ _ hg e3, e4, e5.keep (fun _ h _ => h) hK, e6.of_cells (fun _ h _ => h) hK⟩
theorem Laid.ext {g h0 h1 : Nat} {w w' : World} {l : List (List Int × Tm)} (h : Laid g h0 h1 w l) (hg : h0 ≤ g ∧ g < h1) (hx : Ext w w') : Laid g h0 h1 w' l := h.of_cells hg fun _ _ _ hp => hx.cell hp
theorem Laid.of_row {e B : Nat} {w : World} {v : Value} {l : List (List Int × Tm)} (h : GRow eltPlace e B w v l) (h0 : 0 < l.length) : ∃ g c, v = .slice (some ⟨g, 0, none⟩) l.length c ∧ B ≤ g ∧ g < w.heap.size ∧ l.length ≤ c ∧ Laid g B w.heap.size w l := by
  obtain ⟨g, cap, cs, rfl, hb, hlt, hc, -⟩ := h.at h0
  refine ⟨g, cap, rfl, hb, hlt, hc, fun j hj => ?_⟩
  obtain ⟨g', cap', cs', hv', -, -, -, ⟨a, c, x, s, hcs, hac, hin, htm⟩, -, hcell⟩ := h.at hj
  injection hv' with hv'
  injection hv' with hv'
  injection hv' with hv'
  subst hv'
  refine ⟨a, c, x, s, hcell 0 _ (by rw [hcs]; rfl), hcell 1 _ (by rw [hcs]; rfl), hcell 2 _ (by rw [hcs]; rfl), hac, ?_, ?_⟩
  · exact hin.keep (fun b hb hlt => ⟨hb.1, hlt⟩) (fun _ _ _ h => h)
  · exact htm.mono (fun b hb hlt => ⟨hb.1, hlt⟩)

set_option maxHeartbeats 4000000 in
set_option maxRecDepth 100000 in
theorem refPlaces_any (t : Tm) : ∀ (w : World) (x s : Value), IsTm w x s t → t.size ≤ 1048576 →
    Calls Tryd.prog 25 #[.agg #[x, s]] w fun e w' => (∃ v, e = .returned v ∧ GRow eltPlace 53 w.heap.size w' v t.places) ∧ Ext w w' := by
  induction t using Tm.ind with
  | h f ks ih =>
    intro w x s ht hs
    have ht0 := ht
    simp only [IsTm] at ht
    obtain ⟨rfl, hf1, hf2, a, c, rfl, hc, hk⟩ := ht
    have hs' := hs
    simp only [Tm.size] at hs
    have hkl := length_le_sizes ks
    have Hih := Lib.hid ih; clear ih
    obtain ⟨i0, hi0, hz0, hz1, hz2⟩ := info_parts infoPlace
    obtain ⟨j0, hj0, hy0, hy1, hy2⟩ := info_parts infoInt
    obtain ⟨W, hW⟩ : ∃ W, W = w.alloc (.cells #[.int .i64 f, .slice a ks.length c] 27) := ⟨_, rfl⟩
    have hx : Ext w W := by subst hW; go_grown
    have hsW : W.heap.size = w.heap.size + 1 := by subst hW; simp
    have k0 : W.cell? ⟨w.heap.size, 0, none⟩ = some (.int .i64 f) := by subst hW; go_simp
    have k1 : W.cell? ⟨w.heap.size, 1, none⟩ = some (.slice a ks.length c) := by subst hW; go_simp
    have Hc := Lib.hid (refCopy_any (.mk f ks) W _ _ (ht0.ext hx) (by omega))
    go_enter Tryd.func25, Tryd.ntmps25
    go_wp2_with ((go_at_call 64; rw [← hW]; clear hW; refine (Hc.out).mono ?_; rintro e w2 ⟨⟨v2, rfl, hr2⟩, hx2⟩; obtain ⟨a2, c2, rfl, hc2, hat2⟩ := hr2.tms; simp only [Tm.f, Tm.ks]))
    have hB0 : W.heap.size ≤ w2.heap.size := hx2.size
    obtain ⟨V0, hV0⟩ : ∃ V0, V0 = w2.alloc (.cells #[.slice none 0 0, .int .i64 f, .slice a2 ks.length c2] 53) := ⟨_, rfl⟩
    have hrow0 : GRow eltPlace 53 W.heap.size V0 (.slice (some ⟨w2.heap.size, 0, none⟩) 1 1) [([], Tm.mk f ks)] := by
      rw [hV0]
      refine GRow.one (c := [.slice none 0 0, .int .i64 f, .slice a2 ks.length c2]) hB0 ?_ _ rfl
      refine ⟨none, 0, _, _, rfl, Nat.le_refl _, fun i hi => absurd hi (by simp), ?_⟩
      exact (atTm_of (t := .mk f ks) hf1 hf2 hc2 hat2).mono (fun b hb hlt => ⟨hb, hlt⟩)
    have hx0 : Ext W V0 := hx2.trans (by rw [hV0]; exact ext_alloc _ _)
    rw [← hV0]
    obtain ⟨R0, hR0⟩ : ∃ R0, R0 = w2.heap.size := ⟨_, rfl⟩
    rw [← hR0] at hrow0 ⊢
    clear hV0 hR0 hat2 hr2 Hc
    go_loopw [3, 4] (fun v i wr => ∃ k : Nat, k ≤ ks.length ∧ i = .int .i64 k ∧ GRow eltPlace 53 W.heap.size wr v (([], Tm.mk f ks) :: Tm.placesL 0 (ks.take k)) ∧ Ext W wr) (fun _ i _ => ks.length - (intOf i).toNat)
    case atStart => exact ⟨0, Nat.zero_le _, rfl, hrow0, hx0⟩
    case round =>
      obtain ⟨k, hkk, rfl, hrow, hext⟩ := hrel
      have q0 := hext.cell k0
      have q1 := hext.cell k1
      by_cases hlt : k < ks.length
      case neg =>
        have hk1 : ¬ (k : Int) < ks.length := by omega
        have hke : k = ks.length := by omega
        rw [hke, List.take_length] at hrow
        have Hr := Lib.hid hrow
        clear hrow hke
        go_wp2_with fail
        go_ret
        exact ⟨⟨_, rfl, by simp only [Tm.places]; exact Hr.out.down (by omega)⟩, hx.trans hext⟩
      have hk1 : (k : Int) < ks.length := by omega
      obtain ⟨b', o', a', c', rfl, h1, h2, h3⟩ := hk.look hlt
      have hxr := hx.trans hext
      have g1 := hxr.cell h1
      have g2 := hxr.cell h2
      have hsz := size_le_sizes hlt
      have Hi := Lib.hid (Hih.out _ (List.getElem_mem hlt) wr _ _ (h3.ext hxr) (by omega))
      have hbase := hext.size
      have hlen0 : (([], Tm.mk f ks) :: Tm.placesL 0 (ks.take k)).length ≤ 1048576 := by
        have h1 := placesL_length 0 (ks.take k)
        have h2 := sizes_take_le ks k
        simp only [List.length_cons]; omega
      obtain ⟨base, hbs⟩ : ∃ base, base = (([], Tm.mk f ks) :: Tm.placesL 0 (ks.take k)) := ⟨_, rfl⟩
      have hnext : base ++ (ks[k].places.map fun q => ((k : Int) :: q.1, q.2)) = ([], Tm.mk f ks) :: Tm.placesL 0 (ks.take (k + 1)) := by
        rw [hbs, placesL_take k 0 hlt, Nat.zero_add]; rfl
      rw [← hbs] at hrow hlen0
      have Hnext := Lib.hid hnext
      clear hnext hbs
      obtain ⟨pl, hpl⟩ : ∃ pl, pl = ks[k].places := ⟨_, rfl⟩
      have hpll : pl.length = ks[k].size := by rw [hpl]; exact places_length _
      have hpl0 : 0 < pl.length := by rw [hpll]; exact size_pos _
      have hpl1 : pl.length ≤ 1048576 := by omega
      rw [← hpl] at Hi Hnext
      have Hpl := Lib.hid (And.intro hpl hpll)
      clear hpl hpll h1 h2 h3 Hih
      go_wp2_with ((go_at_call 25; refine (Hi.out).mono ?_; rintro e w3 ⟨⟨vin, rfl, hin⟩, hx3⟩))
      obtain ⟨g, cin, rfl, hg0, hg1, hcin, hlaid⟩ := Laid.of_row hin hpl0
      obtain ⟨h0, hh0⟩ : ∃ h0, h0 = wr.heap.size := ⟨_, rfl⟩
      obtain ⟨h1, hh1⟩ : ∃ h1, h1 = w3.heap.size := ⟨_, rfl⟩
      rw [← hh0, ← hh1] at hlaid
      rw [← hh0] at hg0
      rw [← hh1] at hg1
      have hx3' : Ext W w3 := hext.trans hx3
      have hrow3 := hrow.ext hx3
      have hown3 : ∀ g', u3.ownBlock = some g' → g' < h0 ∨ h1 ≤ g' := fun g' hg' => .inl (by rw [hh0]; exact (hrow.own_ge hg').2)
      have hh1' : h1 ≤ w3.heap.size := by omega
      have hWh0 : W.heap.size ≤ h0 := by rw [hh0]; exact hbase
      clear hin hx3 hrow hh0 hh1 q0 q1 g1 g2 Hi hxr hbase
      go_loopw [3, 6] (fun v i wq => ∃ m : Nat, m ≤ pl.length ∧ i = .int .i64 m ∧ GRow eltPlace 53 W.heap.size wq v (base ++ ((pl.take m).map fun q => ((k : Int) :: q.1, q.2))) ∧ (∀ g', v.ownBlock = some g' → g' < h0 ∨ h1 ≤ g') ∧ Laid g h0 h1 wq pl ∧ Ext W wq ∧ h1 ≤ wq.heap.size) (fun _ i _ => pl.length - (intOf i).toNat)
      case atStart => exact ⟨0, Nat.zero_le _, rfl, by simpa using hrow3, hown3, hlaid, hx3', hh1'⟩
      case round =>
        clear hrow3 hown3 hlaid hx3' hh1' hext
        obtain ⟨m, hmm, rfl, hrow, hown, hlaid, hext, hsz1⟩ := hrel
        have q0 := hext.cell k0
        have q1 := hext.cell k1
        by_cases hml : m < pl.length
        case neg =>
          have hm1 : ¬ (m : Int) < pl.length := by omega
          have hme : m = pl.length := by omega
          rw [hme, List.take_length, Hnext.out] at hrow
          have Hr := Lib.hid hrow
          clear hrow hme
          go_wp2_with fail
          go_roundw
          case rel => exact ⟨k + 1, by omega, by go_num, Hr.out, hext⟩
          case measure => simp [intOf]; omega
        have hm1 : (m : Int) < pl.length := by omega
        obtain ⟨pa, pc, tx, ts, e1, e2, e3, hpc, hin, htm⟩ := hlaid m hml
        obtain ⟨path, hpath⟩ : ∃ path, path = pl[m].1 := ⟨_, rfl⟩
        obtain ⟨tm, htm0⟩ : ∃ tm, tm = pl[m].2 := ⟨_, rfl⟩
        rw [← hpath] at e1 hpc hin
        rw [← htm0] at htm
        have hel : pl[m] = (path, tm) := by rw [hpath, htm0]
        have hstep : base ++ ((pl.take m).map fun q => ((k : Int) :: q.1, q.2)) ++ [((k : Int) :: path, tm)] = base ++ ((pl.take (m + 1)).map fun q => ((k : Int) :: q.1, q.2)) := by
          rw [List.take_succ_eq_append_getElem hml, List.map_append, List.append_assoc, hel]; rfl
        have Hstep := Lib.hid hstep
        obtain ⟨acc, hacc⟩ : ∃ acc, acc = base ++ ((pl.take m).map fun q => ((k : Int) :: q.1, q.2)) := ⟨_, rfl⟩
        have hal : acc.length ≤ 2097152 := by rw [hacc]; simp only [List.length_append, List.length_map, List.length_take]; omega
        rw [← hacc] at hrow Hstep
        have hplen : path.length ≤ 1048576 := by
          have hd := places_deep ks[k] pl[m] (by rw [← Hpl.out.1]; exact List.getElem_mem hml)
          have hd2 := depth_le_size ks[k]
          rw [hpath]; omega
        clear hacc hstep hpath htm0 hel
        obtain ⟨V1, hV1⟩ : ∃ V1, V1 = wr.alloc (.cells #[.int .i64 k] 3) := ⟨_, rfl⟩
        have hxV : Ext wr V1 := by rw [hV1]; exact ext_alloc _ _
        have hrp0 : GRow eltInt 3 wr.heap.size V1 (.slice (some ⟨wr.heap.size, 0, none⟩) 1 1) [(k : Int)] := by
          rw [hV1]
          exact GRow.one (E := eltInt) (t := (k : Int)) (c := [.int .i64 k]) (Nat.le_refl _) ⟨rfl, by omega, by omega⟩ _ rfl
        have hlt64 : (k : Int) ≤ 9223372036854775807 := by omega
        go_wp2_with fail
        rw [← hV1]
        clear hV1
        obtain ⟨wq, rfl⟩ : ∃ wq : World, wq = wr := ⟨_, rfl⟩
        obtain ⟨v3, hv3⟩ : ∃ v3, v3 = u3 := ⟨_, rfl⟩
        have Hrow := Lib.hid hrow
        have Hown := Lib.hid hown
        have Hlaid := Lib.hid hlaid
        clear hrow hown hlaid hv3
        go_loopw [7, 8] (fun v i wz => ∃ j : Nat, j ≤ path.length ∧ i = .int .i64 j ∧ GRow eltInt 3 wq.heap.size wz v ((k : Int) :: path.take j) ∧ Ext wq wz) (fun _ i _ => path.length - (intOf i).toNat)
        case atStart => exact ⟨0, Nat.zero_le _, rfl, hrp0, hxV⟩
        case round =>
          obtain ⟨j, hjj, rfl, hrp, hxz⟩ := hrel
          have d1 := hxz.cell e1
          have d2 := hxz.cell e2
          have d3 := hxz.cell e3
          by_cases hjl : j < path.length
          · have hj1 : (j : Int) < path.length := by omega
            obtain ⟨r1, r2, pb, po, rfl, -, r3⟩ := hin j hjl
            have d4 := hxz.cell r3
            have hln : ((k : Int) :: path.take j).length = j + 1 := by simp; omega
            have hpj : path.take (j + 1) = path.take j ++ [path[j]] := List.take_succ_eq_append_getElem hjl
            have Hln := Lib.hid hln
            have Hpj := Lib.hid hpj
            clear hln hpj
            go_wp2_with ((at_builtin; refine wpList_append_row rfl _ _ _ rfl 3 j0 _ 8 Tryd.underlying41 hj0 hy0 hy1 hy2 rfl (by decide) wq.heap.size u7 ((k : Int) :: path.take j) rfl wr hrp (ext_alloc _ _) wr.heap.size rfl _ _ (heap_alloc_new _ _) path[j] ⟨rfl, r1, r2⟩ (by rw [Hln.out]; simp only [maxLen]; omega) (by rw [Hln.out]; omega) (Nat.le_trans hxz.size (by simp)) ?_; intro g9 cap9 w9 hrow9 hgrow9 hat9 hlt9))
            have hxn := Ext.append' hxz hrp (Nat.le_refl _) (ext_alloc _ _) hgrow9
            have hrn : GRow eltInt 3 wq.heap.size w9 (.slice (some ⟨g9, 0, none⟩) (j + 1 + 1) cap9) ((k : Int) :: path.take (j + 1)) := by
              have h := hrow9
              rw [Hln.out, List.cons_append, ← Hpj.out] at h
              exact h
            exact ⟨⟨j + 1, by omega, by go_num, hrn, hxn⟩, by simp [intOf]; omega⟩
          · have hj1 : ¬ (j : Int) < path.length := by omega
            have hje : j = path.length := by omega
            rw [hje, List.take_length] at hrp
            clear hje
            obtain ⟨pa', pc', hvp, hpc', hat'⟩ := hrp.ints
            have hln : ((k : Int) :: path).length = path.length + 1 := rfl
            rw [hln] at hvp
            subst hvp
            obtain ⟨ta, tc, rfl, rfl, -, -, -, -⟩ := htm.isTm.form
            have hrowz := Hrow.out.ext hxz
            have hextz := hext.trans hxz
            have hszz := hxz.size
            have hA := ext_alloc wr (.cells #[.slice pa' (path.length + 1) pc', .int .i64 tm.f, .slice ta tm.ks.length tc] 53)
            have hisE : eltPlace.is (fun b => W.heap.size ≤ b ∧ u3.ownBlock ≠ some b) (wr.alloc (.cells #[.slice pa' (path.length + 1) pc', .int .i64 tm.f, .slice ta tm.ks.length tc] 53)) [.slice pa' (path.length + 1) pc', .int .i64 tm.f, .slice ta tm.ks.length tc] ((k : Int) :: path, tm) := by
              refine ⟨pa', pc', _, _, rfl, hpc', ?_, ?_⟩
              · refine hat'.keep (fun b hb _ => ⟨by have := hext.size; omega, fun e => ?_⟩) (fun p v hp hv => hA.cell hv)
                have h1 := (Hrow.out.own_ge e).2
                have h2 : wq.heap.size ≤ b := hb.1
                omega
              · refine ((htm.ext hxz).mono (Q := fun b => W.heap.size ≤ b ∧ u3.ownBlock ≠ some b) (fun b hb _ => ⟨by have : h0 ≤ b := hb.1; omega, fun e => ?_⟩)).ext hA
                have h2 : h0 ≤ b ∧ b < h1 := hb
                rcases Hown.out b e with h | h <;> omega
            have HisE := Lib.hid hisE
            clear hisE hat' hrp
            go_wp2_with ((at_builtin; refine wpList_append_row rfl _ _ _ rfl 53 i0 _ 56 Tryd.underlying46 hi0 hz0 hz1 hz2 rfl (by decide) W.heap.size u3 acc rfl wr hrowz hA wr.heap.size rfl _ _ (heap_alloc_new _ _) ((k : Int) :: path, tm) HisE.out (by simp only [maxLen]; omega) (by omega) (Nat.le_trans hextz.size hA.size) ?_; intro g9 cap9 w9 hrow9 hgrow9 hat9 hlt9))
            have hsA : (wr.alloc (.cells #[.slice pa' (path.length + 1) pc', .int .i64 tm.f, .slice ta tm.ks.length tc] 53)).heap.size = wr.heap.size + 1 := by simp
            have hxn := Ext.append' hextz hrowz (Nat.le_refl _) hA hgrow9
            have hszn := hgrow9.size
            rw [Hstep.out] at hrow9
            have hgg : h0 ≤ g ∧ g < h1 := ⟨hg0, hg1⟩
            have hlz : Laid g h0 h1 w9 pl := ((Hlaid.out.ext hgg hxz).ext hgg hA).of_cells hgg fun p v hp hv => by
              rw [hgrow9.cell_far p (by have := hp.2; omega) (fun e => by rcases Hown.out _ e.symm with h | h <;> omega)]
              exact hv
            go_roundw
            case rel =>
              refine ⟨m + 1, by omega, by go_num, hrow9, ?_, hlz, hxn, by omega⟩
              intro g' hg'
              injection hg' with hg'
              simp only at hg'
              subst hg'
              rcases hat9 with h | h
              · exact Hown.out _ h
              · right; omega
            case measure => simp [intOf]; omega
end Go.Proofs.YtoidhdcbemmfhaaDoor
