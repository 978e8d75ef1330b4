/- formula.Parse. Condition: a text of at most 1048576 bytes; the library's variable holds a number.
The wake-up of law 13: what the document says of a few texts. Condition: bytealg.MaxLen holds some integer.
The walks of the laws FormReads, FormParses, FormWrites. Conditions: the statement's bulk; bytealg.MaxLen holds some integer.
The walk of the law FormWrites. Conditions: a formula of at most 1048576 parts; bytealg.MaxLen holds some integer.
The walk of the law FormChecks. Conditions: formulas of at most 1048576 parts; bytealg.MaxLen holds some integer. -/
import Derived.Test.YtnclgkdpafhogaaGreatQ32
import Derived.Test.YtnclgkdpafhogaaGreatQ20
import Derived.Test.YtnclgkdpafhogaaGreatQ34
import Derived.Test.YtnclgkdpafhogaaGreatQ23
import Derived.Test.YtnclgkdpafhogaaGreatQ11
import Derived.Deep.RegionHeld3
namespace Go.Proofs.YtnclgkdpafhogaaGreat
open Go.ChangeShapes Go.WideShapes Go.ChangeAt Go.RowKit
set_option maxHeartbeats 4000000 in
set_option maxRecDepth 100000 in
theorem parse_any (s : ByteArray) (hs : s.size ≤ 1048576) (w : World) (m : Int) (hm : w.cell? ⟨0, 0, none⟩ = some (.int .i64 m)) : Calls Tryz.prog 15 #[.string s] w (ReadSays (parseS s) w) := by
  obtain ⟨W, hW⟩ : ∃ W, W = w.alloc (.cells #[.int .i64 0, .slice none 0 0, .slice none 0 0, .slice none 0 0] 29) := ⟨_, rfl⟩
  have hx0 : Ext w W := by rw [hW]; exact ext_alloc _ _
  have hnb : Own W w.heap.size [.int .i64 0, .slice none 0 0, .slice none 0 0, .slice none 0 0] := by rw [hW]; exact own4 w _ _ _ _ _
  have hnl := hnb.lt
  have HC := Lib.hid (cut_any s hs W m (hx0.cell hm))
  have hends := fun h => cutS_ends (s := s) h
  have hlen := cutS_len s
  have HE := Lib.hid (show parseS s = parseC (cutS s) from rfl)
  generalize cutS s = ct at HC HE hends hlen
  unfold parseC at HE
  obtain ⟨l, at', er⟩ := ct
  simp only at HE hends hlen
  by_cases h0 : er = 0
  case neg =>
    have q1 : (er != 0) = true := by rw [bne_iff_ne]; exact h0
    replace HE := Lib.hid (HE.out.trans (if_pos h0))
    clear h0 hends
    go_enter Tryz.func15, Tryz.ntmps15
    go_wp2_with (rw [← hW]; clear hW; go_at_call 43; refine (HC.out).mono ?_; rintro e w1 ⟨⟨v, rfl, hv⟩, hx1⟩; have hn1 := hnb.ext hx1; have hnl1 := hn1.lt; (obtain ⟨⟨n0, g0⟩, ⟨n1, g1⟩, ⟨n2, g2⟩, ⟨n3, g3⟩⟩ := hn1.cells4))
    have hch := chg_set4 w1 w.heap.size (.int .i64 0) (.slice none 0 0) (.slice none 0 0) (.slice none 0 0)
    obtain ⟨y0, y1, y2, y3⟩ := own_res4 (own_set4 hn1 (.int .i64 0) (.slice none 0 0) (.slice none 0 0) (.slice none 0 0))
    refine bodyPost_ret (v := .tuple #[.agg #[.int .i64 0, .slice none 0 0, .slice none 0 0, .slice none 0 0], .int .i64 (at' : Nat), .int .i64 er]) (by simp [results, Tryz.results15, go_sem, y0, y1, y2, y3]) rfl ?_
    rw [HE.out]
    exact ReadSays.mk rfl ⟨_, _, _, _, rfl, fm_zero⟩ (Chg.ext (hx0.trans hx1) hch (by simp))
  case pos =>
    subst h0
    replace HE := Lib.hid (HE.out.trans (if_neg (fun h => h rfl)))
    have hE := hends rfl
    obtain ⟨hr1, hr2, hr3⟩ := readS_range hE
    have hlp := hE.pos
    clear hends
    have HRD := Lib.hid (fun (w1 : World) (P : Nat → Prop) (a : Option Addr) (c : Nat) (h : Dat.Rows P w1 a (l.map Tok.dat)) (hc : l.length ≤ c) => read_any l (by omega) h hc 0 (by decide) (by decide))
    generalize readS l 0 = rd at HE hr1 hr2 hr3 HRD
    obtain ⟨f, nx, er⟩ := rd
    simp only at HE hr1 hr2 hr3
    obtain ⟨i, hi⟩ : ∃ i : Nat, nx = i := ⟨nx.toNat, by omega⟩
    subst hi
    have hil : i < l.length := by omega
    have htk := tokOf_lt (l := l) (i := (i : Int)) (by omega) (by omega)
    simp only [Int.toNat_natCast] at htk
    rw [htk] at HE
    clear htk hE
    go_enter Tryz.func15, Tryz.ntmps15
    go_upto_region 5 with (first
      | (rw [← hW]; clear hW; go_at_call 43; refine (HC.out).mono ?_; rintro e w1 ⟨⟨v, rfl, hv⟩, hx1⟩; (obtain ⟨a, c, rfl, hc, hd⟩ := GRow.dat (by decide) hv); rw [List.length_map] at hc; simp only [List.length_map]; have hn1 := hnb.ext hx1)
      | (go_at_call 12; refine (HRD.out w1 _ a c hd hc).mono ?_; rintro e w2 ⟨⟨v2, rfl, x0, x1, x2, x3, rfl, hfm⟩, hx2⟩; have hn2 := hn1.ext hx2; have hnl2 := hn2.lt; (obtain ⟨b1, c1, b2, c2, b3, c3, rfl, rfl, rfl, rfl⟩ := fm_vals' hfm); (obtain ⟨⟨n0, g0⟩, ⟨n1, g1⟩, ⟨n2, g2⟩, ⟨n3, g3⟩⟩ := hn2.cells4)))
    obtain ⟨V, hV⟩ : ∃ V, V = (((w2.setCell ⟨w.heap.size, 0, none⟩ (.int .i64 f.op)).setCell ⟨w.heap.size, 1, none⟩ (.slice b1 f.vars.length c1)).setCell ⟨w.heap.size, 2, none⟩ (.slice b2 f.terms.length c2)).setCell ⟨w.heap.size, 3, none⟩ (.slice b3 f.args.length c3) := ⟨_, rfl⟩
    have hch := chg_set4 w2 w.heap.size (.int .i64 f.op) (.slice b1 f.vars.length c1) (.slice b2 f.terms.length c2) (.slice b3 f.args.length c3)
    have hn4 := own_set4 hn2 (.int .i64 f.op) (.slice b1 f.vars.length c1) (.slice b2 f.terms.length c2) (.slice b3 f.args.length c3)
    rw [← hV] at hch hn4 ⊢
    have hd4 : Dat.Rows (fun g => W.heap.size ≤ g) V a (l.map Tok.dat) := Dat.Rows.chg (Dat.Rows.ext hd hx2) hch (fun g hg => by simp; omega)
    have htoks : IsToks V.heap.size V a l := Dat.Rows.mono hd4 fun g _ hlt => hlt
    have hle1 := hx1.size
    have hfm4 : IsFm (fun g => W.heap.size ≤ g) V (.int .i64 f.op) (.slice b1 f.vars.length c1) (.slice b2 f.terms.length c2) (.slice b3 f.args.length c3) f := Dat.Fs.mono (Dat.Fs.chg hfm hch (fun g hg => by simp; omega)) fun g hg _ => by omega
    have hxV : Ext w V := Chg.ext ((hx0.trans hx1).trans hx2) hch (by simp)
    obtain ⟨tb', tof', htb, htbW⟩ := Dat.Rows.addr hd4 (by rw [List.length_map]; omega)
    obtain ⟨tb, tof, rfl, -, t0, t1, t2, -⟩ := htoks.look hil
    injection htb with htb; injection htb with htb1 htb2 _
    subst htb1; subst htb2
    have htn : tb ≠ w.heap.size := by omega
    have htn2 : w.heap.size ≠ tb := by omega
    have htl := cell_lt t0
    clear n0 n1 n2 n3 g0 g1 g2 g3 hn2 hn1 hnb hV hch hd hd4 htoks hfm hx0 hx1 hx2 HC HRD hv hnl2
    obtain ⟨⟨n0, g0⟩, ⟨n1, g1⟩, ⟨n2, g2⟩, ⟨n3, g3⟩⟩ := hn4.cells4
    have hVl := hn4.lt
    have hil2 : (i : Int) < l.length := by omega
    generalize l[i] = tk at *
    by_cases h0 : er = 0
    case neg =>
      have q1 : (er != 0) = true := by rw [bne_iff_ne]; exact h0
      replace HE := Lib.hid (HE.out.trans (if_pos h0))
      clear h0 hr3
      go_upto_region 6 with fail
      go_cut [3, 4] from 27 to 33 (fun x y wx => x = .int .i64 tk.at' ∧ y = .int .i64 er ∧ Own wx w.heap.size [.int .i64 0, .slice none 0 0, .slice none 0 0, .slice none 0 0] ∧ Chg [w.heap.size] V wx)
      case first =>
        go_region_with fail
        all_goals
          go_wp2_with fail
          go_meet
          exact ⟨rfl, rfl, (own_set4 hn4 (.int .i64 0) (.slice none 0 0) (.slice none 0 0) (.slice none 0 0)).ext (Ext.drew (Below.refl _ _)), (chg_set4 V w.heap.size (.int .i64 0) (.slice none 0 0) (.slice none 0 0) (.slice none 0 0)).trans (Chg.of_ext (Ext.drew (Below.refl _ _)))⟩
      case rest =>
        obtain ⟨rfl, rfl, h1, h2⟩ := hcut
        obtain ⟨y0, y1, y2, y3⟩ := own_res4 h1
        go_wp2_with fail
        refine bodyPost_ret (v := .tuple #[.agg #[.int .i64 0, .slice none 0 0, .slice none 0 0, .slice none 0 0], .int .i64 tk.at', .int .i64 er]) (by simp [results, Tryz.results15, go_sem, y0, y1, y2, y3]) rfl ?_
        rw [HE.out]
        exact ReadSays.mk rfl ⟨_, _, _, _, rfl, fm_zero⟩ (Chg.ext hxV h2 (by simp))
    case pos =>
      subst h0
      replace HE := Lib.hid (HE.out.trans (if_neg (fun h => h rfl)))
      clear hr3
      by_cases h7 : tk.kind = 7
      case neg =>
        have q2 : (tk.kind != 7) = true := by rw [bne_iff_ne]; exact h7
        replace HE := Lib.hid (HE.out.trans (if_pos h7))
        clear h7
        go_upto_region 8 with fail
        go_cut [3, 4] from 41 to 46 (fun x y wx => x = .int .i64 tk.at' ∧ y = .int .i64 230 ∧ Own wx w.heap.size [.int .i64 0, .slice none 0 0, .slice none 0 0, .slice none 0 0] ∧ Chg [w.heap.size] V wx)
        case first =>
          go_region_with fail
          all_goals
            go_wp2_with fail
            go_meet
            exact ⟨rfl, rfl, (own_set4 hn4 (.int .i64 0) (.slice none 0 0) (.slice none 0 0) (.slice none 0 0)).ext (Ext.drew (Below.refl _ _)), (chg_set4 V w.heap.size (.int .i64 0) (.slice none 0 0) (.slice none 0 0) (.slice none 0 0)).trans (Chg.of_ext (Ext.drew (Below.refl _ _)))⟩
        case rest =>
          obtain ⟨rfl, rfl, h1, h2⟩ := hcut
          obtain ⟨y0, y1, y2, y3⟩ := own_res4 h1
          go_wp2_with fail
          refine bodyPost_ret (v := .tuple #[.agg #[.int .i64 0, .slice none 0 0, .slice none 0 0, .slice none 0 0], .int .i64 tk.at', .int .i64 230]) (by simp [results, Tryz.results15, go_sem, y0, y1, y2, y3]) rfl ?_
          rw [HE.out]
          exact ReadSays.mk rfl ⟨_, _, _, _, rfl, fm_zero⟩ (Chg.ext hxV h2 (by simp))
      case pos =>
        have q2 : (tk.kind != 7) = false := by rw [bne_eq_false_iff_eq]; exact h7
        replace HE := Lib.hid (HE.out.trans (if_neg (fun h => h h7)))
        clear h7
        go_wp2_with fail
        have hch := chg_set4 V w.heap.size (.int .i64 f.op) (.slice b1 f.vars.length c1) (.slice b2 f.terms.length c2) (.slice b3 f.args.length c3)
        obtain ⟨y0, y1, y2, y3⟩ := own_res4 (own_set4 hn4 (.int .i64 f.op) (.slice b1 f.vars.length c1) (.slice b2 f.terms.length c2) (.slice b3 f.args.length c3))
        refine bodyPost_ret (v := .tuple #[.agg #[.int .i64 f.op, .slice b1 f.vars.length c1, .slice b2 f.terms.length c2, .slice b3 f.args.length c3], .int .i64 0, .int .i64 0]) (by simp [results, Tryz.results15, go_sem, y0, y1, y2, y3]) rfl ?_
        rw [HE.out]
        exact ReadSays.mk rfl ⟨_, _, _, _, rfl, Dat.Fs.mono (Dat.Fs.chg hfm4 hch (fun g hg => by simp; omega)) fun g hg _ => by omega⟩ (Chg.ext hxV hch (by simp))
end Go.Proofs.YtnclgkdpafhogaaGreat
namespace Go.Proofs.YtnclgkdpafhogaaGreat
open Go.ChangeShapes Go.WideShapes Go.ChangeAt Go.RowKit
def wk1 : ByteArray := ⟨#[33, 32, 91, 88, 93, 32, 58, 32, 112, 40, 88, 41, 32, 61, 62, 32, 113]⟩
def wk2 : ByteArray := ⟨#[97, 32, 38, 32, 98, 32, 124, 32, 99]⟩
def wk3 : ByteArray := ⟨#[33, 32, 91, 88, 44, 88, 93, 32, 58, 32, 112, 40, 88, 41]⟩
theorem wk1_says : (parseS wk1).1.op = 8 ∧ (parseS wk1).2.2 = 0 ∧ textS (parseS wk1).1 = (wk1, 0) ∧ (parseS wk1).1.size ≤ 1048576 := by
  refine ⟨by kernel_rfl, by kernel_rfl, by kernel_rfl, ?_⟩
  exact of_decide_eq_true (by kernel_rfl)
theorem wk2_says : (parseS wk2).2.1 = 6 ∧ (parseS wk2).2.2 = 230 := ⟨by kernel_rfl, by kernel_rfl⟩
theorem wk3_says : (parseS wk3).2.2 = 2 := by kernel_rfl

/-- what a call gives that reads a formula, its values written out -/
theorem readSays_cells {r : Fm × Int × Int} {w : World} {e : Ending} {w' : World} (h : ReadSays r w e w') : ∃ (b1 : Option Addr) (c1 : Nat) (b2 : Option Addr) (c2 : Nat) (b3 : Option Addr) (c3 : Nat),
    e = .returned (.tuple #[.agg #[.int .i64 r.1.op, .slice b1 r.1.vars.length c1, .slice b2 r.1.terms.length c2, .slice b3 r.1.args.length c3], .int .i64 r.2.1, .int .i64 r.2.2]) ∧
    IsFm (fun g => w.heap.size ≤ g) w' (.int .i64 r.1.op) (.slice b1 r.1.vars.length c1) (.slice b2 r.1.terms.length c2) (.slice b3 r.1.args.length c3) r.1 ∧ Ext w w' := by
  obtain ⟨⟨v, rfl, x, y, z, u, rfl, hf⟩, hx⟩ := h
  obtain ⟨b1, c1, b2, c2, b3, c3, rfl, rfl, rfl, rfl⟩ := IsFm.cells hf
  exact ⟨b1, c1, b2, c2, b3, c3, rfl, hf, hx⟩

set_option maxHeartbeats 2000000 in
set_option maxRecDepth 100000 in
theorem wakes13_any (w : World) (m : Int) (hm : w.cell? ⟨0, 0, none⟩ = some (.int .i64 m)) : Calls Tryz.prog 11 #[] w fun e w' => e = .returned (.bool true) ∧ Ext w w' := by
  obtain ⟨h1, h2, h3, h4⟩ := wk1_says
  obtain ⟨h5, h6⟩ := wk2_says
  have h7 := wk3_says
  have P1 := Lib.hid (fun w' (hx : Ext w w') => parse_any wk1 (by decide) w' m (hx.cell hm))
  have P2 := Lib.hid (fun w' (hx : Ext w w') => parse_any wk2 (by decide) w' m (hx.cell hm))
  have P3 := Lib.hid (fun w' (hx : Ext w w') => parse_any wk3 (by decide) w' m (hx.cell hm))
  generalize parseS wk1 = r1 at *
  generalize parseS wk2 = r2 at *
  generalize parseS wk3 = r3 at *
  obtain ⟨f1, a1, e1⟩ := r1
  obtain ⟨f2, a2, e2⟩ := r2
  obtain ⟨f3, a3, e3⟩ := r3
  simp only at h1 h2 h3 h4 h5 h6 h7
  subst h2; subst h5; subst h6; subst h7
  have HT := Lib.hid (fun (P : Nat → Prop) w' x y z u (hi : IsFm P w' x y z u f1) => fmText_any f1 h4 P w' x y z u hi)
  rw [h3] at HT
  unfold wk1 at P1 HT
  unfold wk2 at P2
  unfold wk3 at P3
  have hop : (f1.op == 8) = true := by rw [h1]; rfl
  clear h3 h4 h1
  go_enter Tryz.func11, Tryz.ntmps11
  go_wp2_with (first
    | (go_at_call 18; refine (HT.out _ _ _ _ _ _ hg1).mono ?_; rintro e w4 ⟨rfl, hx4⟩; replace k0 := hx4.cell k0)
    | (go_at_call 15; with_reducible refine (P3.out _ hxB).mono ?_; intro e w3 hs3; obtain ⟨p3, c3, q3, d3, r3, e3, rfl, -, hx3⟩ := readSays_cells hs3; (have hxC := hx3.trans (ext_alloc w3 (.cells #[.int .i64 f3.op, .slice p3 f3.vars.length c3, .slice q3 f3.terms.length d3, .slice r3 f3.args.length e3] 29))); (have hg1 := hf1.ext ((ext_alloc w1 (.cells #[.int .i64 f1.op, .slice p1 f1.vars.length c1, .slice q1 f1.terms.length d1, .slice r1 f1.args.length e1] 29)).trans (hxB2.trans hxC))); replace k0 := hxC.cell k0; replace k1 := hxC.cell k1; replace k2 := hxC.cell k2; replace k3 := hxC.cell k3; clear hs3)
    | (go_at_call 15; with_reducible refine (P2.out _ hxA).mono ?_; intro e w2 hs2; obtain ⟨p2, c2, q2, d2, r2, e2, rfl, -, hx2⟩ := readSays_cells hs2; (have hxB2 := hx2.trans (ext_alloc w2 (.cells #[.int .i64 f2.op, .slice p2 f2.vars.length c2, .slice q2 f2.terms.length d2, .slice r2 f2.args.length e2] 29))); have hxB := hxA.trans hxB2; replace k0 := hxB2.cell k0; replace k1 := hxB2.cell k1; replace k2 := hxB2.cell k2; replace k3 := hxB2.cell k3; clear hs2)
    | (go_at_call 15; with_reducible refine (P1.out _ (Below.refl _ _)).mono ?_; intro e w1 hs1; obtain ⟨p1, c1, q1, d1, r1, e1, rfl, hf1, hx1⟩ := readSays_cells hs1; (have hxA := hx1.trans (ext_alloc w1 (.cells #[.int .i64 f1.op, .slice p1 f1.vars.length c1, .slice q1 f1.terms.length d1, .slice r1 f1.args.length e1] 29))); (obtain ⟨⟨k0, -⟩, ⟨k1, -⟩, ⟨k2, -⟩, ⟨k3, -⟩⟩ := (own4 w1 (.int .i64 f1.op) (.slice p1 f1.vars.length c1) (.slice q1 f1.terms.length d1) (.slice r1 f1.args.length e1) 29).cells4); clear hs1))
  go_ret
  exact ⟨rfl, hxB.trans (hxC.trans hx4)⟩
end Go.Proofs.YtnclgkdpafhogaaGreat
namespace Go.Proofs.YtnclgkdpafhogaaGreat
open Go.ChangeShapes Go.WideShapes Go.ChangeAt Go.RowKit
theorem check_small {f : Fm} (h : f.check = 0) : f.size ≤ 300 := by
  unfold Fm.check at h
  split at h
  · cases h
  · rename_i hn; omega
theorem readS_small (l : List Tok) (fr : Int) : (readS l fr).1.size ≤ 300 := by
  have hz : Fm.zero.size ≤ 300 := by decide
  unfold readS
  split
  · exact hz
  · split
    · exact hz
    · split
      · exact hz
      · rename_i h; exact check_small (Decidable.not_not.1 h)
theorem parseS_small (s : ByteArray) : (parseS s).1.size ≤ 300 := by
  have hz : Fm.zero.size ≤ 300 := by decide
  unfold parseS parseC
  split
  · exact hz
  · split
    · exact hz
    · split
      · exact hz
      · exact readS_small _ _
set_option maxHeartbeats 2000000 in
set_option maxRecDepth 100000 in
theorem formParses_any (s : ByteArray) (hs : s.size ≤ 1048576) (w : World) (m : Int) (hm : w.cell? ⟨0, 0, none⟩ = some (.int .i64 m)) :
    Calls Tryz.prog 4 #[.string s] w fun e w' => e = .returned (.bool true) ∧ Ext w w' := by
  have P1 := Lib.hid (fun w' (hx : Ext w w') => parse_any s hs w' m (hx.cell hm))
  have P2 := Lib.hid (fun w' (hx : Ext w w') => refParse_any s hs w')
  have HW := Lib.hid (fun w' (hx : Ext w w') => wakes13_any w' m (hx.cell hm))
  have hsm := parseS_small s
  generalize parseS s = r at *
  obtain ⟨f1, i1, j1⟩ := r
  simp only at hsm
  have HS := Lib.hid (fun (P Q : Nat → Prop) w' x y z u x' y' z' u' (h : IsFm P w' x y z u f1) (h' : IsFm Q w' x' y' z' u' f1) => refSame_any f1 f1 P Q w' x y z u x' y' z' u' h h' (by omega))
  rw [Fm.same_refl] at HS
  clear hsm
  go_enter Tryz.func4, Tryz.ntmps4
  go_wp2_with (first
    | (go_at_call 11; refine (HW.out _ (hxB.trans hx5)).mono ?_; rintro e w6 ⟨rfl, hx6⟩)
    | (go_at_call 14; refine (HS.out _ _ _ _ _ _ _ _ _ _ _ hgA hgB).mono ?_; rintro e w5 ⟨rfl, hx5⟩)
    | (go_at_call 16; refine (P2.out _ hxA).mono ?_; intro e w2 hs2; obtain ⟨p2, c2, q2, d2, s2, e2, rfl, hf2, hx2⟩ := readSays_cells hs2; (have hxB2 := hx2.trans (ext_alloc w2 (.cells #[.int .i64 f1.op, .slice p2 f1.vars.length c2, .slice q2 f1.terms.length d2, .slice s2 f1.args.length e2] 29))); have hxB := hxA.trans hxB2; replace k0 := hxB2.cell k0; replace k1 := hxB2.cell k1; replace k2 := hxB2.cell k2; replace k3 := hxB2.cell k3; (have hgA := hf1.ext ((ext_alloc w1 (.cells #[.int .i64 f1.op, .slice p1 f1.vars.length c1, .slice q1 f1.terms.length d1, .slice s1 f1.args.length e1] 29)).trans hxB2)); (have hgB := hf2.ext (ext_alloc w2 (.cells #[.int .i64 f1.op, .slice p2 f1.vars.length c2, .slice q2 f1.terms.length d2, .slice s2 f1.args.length e2] 29))); (obtain ⟨⟨l0, -⟩, ⟨l1, -⟩, ⟨l2, -⟩, ⟨l3, -⟩⟩ := (own4 w2 (.int .i64 f1.op) (.slice p2 f1.vars.length c2) (.slice q2 f1.terms.length d2) (.slice s2 f1.args.length e2) 29).cells4); clear hs2 hf1 hf2)
    | (go_at_call 15; refine (P1.out _ (Below.refl _ _)).mono ?_; intro e w1 hs1; obtain ⟨p1, c1, q1, d1, s1, e1, rfl, hf1, hx1⟩ := readSays_cells hs1; (have hxA := hx1.trans (ext_alloc w1 (.cells #[.int .i64 f1.op, .slice p1 f1.vars.length c1, .slice q1 f1.terms.length d1, .slice s1 f1.args.length e1] 29))); (obtain ⟨⟨k0, -⟩, ⟨k1, -⟩, ⟨k2, -⟩, ⟨k3, -⟩⟩ := (own4 w1 (.int .i64 f1.op) (.slice p1 f1.vars.length c1) (.slice q1 f1.terms.length d1) (.slice s1 f1.args.length e1) 29).cells4); clear hs1))
  go_ret
  exact ⟨rfl, (hxB.trans hx5).trans hx6⟩

set_option maxHeartbeats 2000000 in
set_option maxRecDepth 100000 in
theorem formReads_small (l : List Tok) (hl : l.length ≤ 4000) {P : Nat → Prop} {a : Option Addr} {c : Nat} (fr : Int) (hf1 : -9223372036854775808 ≤ fr) (hf2 : fr ≤ 9223372036854775807) (w : World) (m : Int) (hm : w.cell? ⟨0, 0, none⟩ = some (.int .i64 m)) (h : Dat.Rows P w a (l.map Tok.dat)) (hc : l.length ≤ c) :
    Calls Tryz.prog 3 #[.slice a l.length c, .int .i64 fr] w fun e w' => e = .returned (.bool true) ∧ Ext w w' := by
  have P1 := Lib.hid (fun w' (hx : Ext w w') => read_any l (by omega) (h.ext hx) hc fr hf1 hf2)
  have P2 := Lib.hid (fun w' (hx : Ext w w') => refRead_any l (by omega) (h.ext hx) hc fr hf1 hf2)
  have HW := Lib.hid (fun w' (hx : Ext w w') => wakes13_any w' m (hx.cell hm))
  have hsm := readS_small l fr
  generalize readS l fr = r at *
  obtain ⟨f1, i1, j1⟩ := r
  simp only at hsm
  have HS := Lib.hid (fun (P Q : Nat → Prop) w' x y z u x' y' z' u' (h : IsFm P w' x y z u f1) (h' : IsFm Q w' x' y' z' u' f1) => refSame_any f1 f1 P Q w' x y z u x' y' z' u' h h' (by omega))
  rw [Fm.same_refl] at HS
  clear hsm
  have hq : ¬ 4000 < (l.length : Int) := by omega
  go_enter Tryz.func3, Tryz.ntmps3
  go_wp2_with (first
    | (go_at_call 11; refine (HW.out _ (hxB.trans hx5)).mono ?_; rintro e w6 ⟨rfl, hx6⟩)
    | (go_at_call 14; refine (HS.out _ _ _ _ _ _ _ _ _ _ _ hgA hgB).mono ?_; rintro e w5 ⟨rfl, hx5⟩)
    | (go_at_call 13; refine (P2.out _ hxA).mono ?_; intro e w2 hs2; obtain ⟨p2, c2, q2, d2, s2, e2, rfl, hf2, hx2⟩ := readSays_cells hs2; (have hxB2 := hx2.trans (ext_alloc w2 (.cells #[.int .i64 f1.op, .slice p2 f1.vars.length c2, .slice q2 f1.terms.length d2, .slice s2 f1.args.length e2] 29))); have hxB := hxA.trans hxB2; replace k0 := hxB2.cell k0; replace k1 := hxB2.cell k1; replace k2 := hxB2.cell k2; replace k3 := hxB2.cell k3; (have hgA := hf1.ext ((ext_alloc w1 (.cells #[.int .i64 f1.op, .slice p1 f1.vars.length c1, .slice q1 f1.terms.length d1, .slice s1 f1.args.length e1] 29)).trans hxB2)); (have hgB := hf2.ext (ext_alloc w2 (.cells #[.int .i64 f1.op, .slice p2 f1.vars.length c2, .slice q2 f1.terms.length d2, .slice s2 f1.args.length e2] 29))); (obtain ⟨⟨l0, -⟩, ⟨l1, -⟩, ⟨l2, -⟩, ⟨l3, -⟩⟩ := (own4 w2 (.int .i64 f1.op) (.slice p2 f1.vars.length c2) (.slice q2 f1.terms.length d2) (.slice s2 f1.args.length e2) 29).cells4); clear hs2 hf1 hf2)
    | (go_at_call 12; refine (P1.out _ (Below.refl _ _)).mono ?_; intro e w1 hs1; obtain ⟨p1, c1, q1, d1, s1, e1, rfl, hf1, hx1⟩ := readSays_cells hs1; (have hxA := hx1.trans (ext_alloc w1 (.cells #[.int .i64 f1.op, .slice p1 f1.vars.length c1, .slice q1 f1.terms.length d1, .slice s1 f1.args.length e1] 29))); (obtain ⟨⟨k0, -⟩, ⟨k1, -⟩, ⟨k2, -⟩, ⟨k3, -⟩⟩ := (own4 w1 (.int .i64 f1.op) (.slice p1 f1.vars.length c1) (.slice q1 f1.terms.length d1) (.slice s1 f1.args.length e1) 29).cells4); clear hs1))
  go_ret
  exact ⟨rfl, (hxB.trans hx5).trans hx6⟩

set_option maxHeartbeats 2000000 in
set_option maxRecDepth 100000 in
theorem formReads_any (l : List Tok) (hl : l.length ≤ 1048576) {P : Nat → Prop} {a : Option Addr} {c : Nat} (fr : Int) (hf1 : -9223372036854775808 ≤ fr) (hf2 : fr ≤ 9223372036854775807) (w : World) (m : Int) (hm : w.cell? ⟨0, 0, none⟩ = some (.int .i64 m)) (h : Dat.Rows P w a (l.map Tok.dat)) (hc : l.length ≤ c) :
    Calls Tryz.prog 3 #[.slice a l.length c, .int .i64 fr] w fun e w' => e = .returned (.bool true) ∧ Ext w w' := by
  by_cases h4 : l.length ≤ 4000
  · exact formReads_small l h4 fr hf1 hf2 w m hm h hc
  · have HW := Lib.hid (wakes13_any w m hm)
    have hq : 4000 < (l.length : Int) := by omega
    clear h4
    go_enter Tryz.func3, Tryz.ntmps3
    go_wp2_with (go_at_call 11; refine (HW.out).mono ?_; rintro e w6 ⟨rfl, hx6⟩)
    go_ret
    exact ⟨rfl, hx6⟩
end Go.Proofs.YtnclgkdpafhogaaGreat
namespace Go.Proofs.YtnclgkdpafhogaaGreat
open Go.ChangeShapes Go.WideShapes Go.ChangeAt Go.RowKit
set_option maxHeartbeats 2000000 in
set_option maxRecDepth 100000 in
theorem formWrites_any (f : Fm) (hs : f.size ≤ 1048576) (P : Nat → Prop) (w : World) (m : Int) (hm : w.cell? ⟨0, 0, none⟩ = some (.int .i64 m)) (x y z u : Value) (ht : IsFm P w x y z u f) :
    Calls Tryz.prog 5 #[.agg #[x, y, z, u]] w fun e w' => e = .returned (.bool true) ∧ Ext w w' := by
  have HG := Lib.hid (fun w' (hx : Ext w w') => great_any f P w' x y z u (ht.ext hx) (by omega))
  have HC := Lib.hid (fun w' (hx : Ext w w') => lawCopyFm_any f P w' x y z u (ht.ext hx) (by omega))
  have HT := Lib.hid (fun (Q : Nat → Prop) w' a b c d (hi : IsFm Q w' a b c d f) => fmText_any f hs Q w' a b c d hi)
  have HR := Lib.hid (fun w' (hx : Ext w w') => refText_any f (by omega) P w' x y z u (ht.ext hx))
  have HW := Lib.hid (fun w' (hx : Ext w w') => wakes13_any w' m (hx.cell hm))
  obtain ⟨b1, c1, b2, c2, b3, c3, rfl, rfl, rfl, rfl⟩ := ht.cells
  clear ht
  obtain ⟨W, hW⟩ : ∃ W, W = w.alloc (.cells #[.int .i64 f.op, .slice b1 f.vars.length c1, .slice b2 f.terms.length c2, .slice b3 f.args.length c3] 29) := ⟨_, rfl⟩
  have hx : Ext w W := by rw [hW]; exact ext_alloc _ _
  obtain ⟨⟨k0, -⟩, ⟨k1, -⟩, ⟨k2, -⟩, ⟨k3, -⟩⟩ := (own4 w (.int .i64 f.op) (.slice b1 f.vars.length c1) (.slice b2 f.terms.length c2) (.slice b3 f.args.length c3) 29).cells4
  rw [← hW] at k0 k1 k2 k3
  generalize greatB f = gb at HG
  generalize textS f = ts at *
  obtain ⟨ts, te⟩ := ts
  simp only at HT HR
  cases gb with
  | true =>
    clear HC HT HR
    go_enter Tryz.func5, Tryz.ntmps5
    go_upto_region 1 with fail
    rw [← hW]
    clear hW
    go_wp2_with (first
      | (go_at_call 17; refine (HG.out _ hx).mono ?_; rintro e w1 ⟨rfl, hx1⟩)
      | (go_at_call 11; refine (HW.out _ (hx.trans hx1)).mono ?_; rintro e w6 ⟨rfl, hx6⟩))
    go_ret
    exact ⟨rfl, (hx.trans hx1).trans hx6⟩
  | false =>
    go_enter Tryz.func5, Tryz.ntmps5
    go_upto_region 1 with fail
    rw [← hW]
    clear hW
    go_wp2_with (first
      | (go_at_call 11; refine (HW.out _ hx5).mono ?_; rintro e w6 ⟨rfl, hx6⟩)
      | (go_at_call 20; refine (HR.out _ hx3).mono ?_; rintro e w4 ⟨rfl, hx4⟩; have hx5 := hx3.trans hx4)
      | (go_at_call 18; refine (HT.out _ _ _ _ _ _ hcp).mono ?_; rintro e w3 ⟨rfl, hx3'⟩; have hx3 := hx2.trans hx3'; replace k0 := hx3'.cell k0; replace k1 := hx3'.cell k1; replace k2 := hx3'.cell k2; replace k3 := hx3'.cell k3)
      | (go_at_call 19; refine (HC.out _ (hx.trans hx1)).mono ?_; rintro e w2 ⟨⟨v, rfl, xa, xb, xc, xd, rfl, hcp⟩, hx2'⟩; have hx2 := (hx.trans hx1).trans hx2'; replace k0 := hx2'.cell k0; replace k1 := hx2'.cell k1; replace k2 := hx2'.cell k2; replace k3 := hx2'.cell k3)
      | (go_at_call 17; refine (HG.out _ hx).mono ?_; rintro e w1 ⟨rfl, hx1⟩; replace k0 := hx1.cell k0; replace k1 := hx1.cell k1; replace k2 := hx1.cell k2; replace k3 := hx1.cell k3))
    go_ret
    exact ⟨rfl, hx5.trans hx6⟩
end Go.Proofs.YtnclgkdpafhogaaGreat
namespace Go.Proofs.YtnclgkdpafhogaaGreat
open Go.ChangeShapes Go.WideShapes Go.ChangeAt Go.RowKit
set_option maxHeartbeats 2000000 in
set_option maxRecDepth 100000 in
theorem formChecks_great (f g : Fm) (hs : f.size ≤ 1048576) (hs' : g.size ≤ 1048576) (P Q : Nat → Prop) (w : World) (m : Int) (hm : w.cell? ⟨0, 0, none⟩ = some (.int .i64 m)) (x y z u x' y' z' u' : Value) (ht : IsFm P w x y z u f) (hu : IsFm Q w x' y' z' u' g)
    (hgr : greatB f = true ∨ greatB f = false ∧ greatB g = true) :
    Calls Tryz.prog 6 #[.agg #[x, y, z, u], .agg #[x', y', z', u']] w fun e w' => e = .returned (.bool true) ∧ Ext w w' := by
  have HG := Lib.hid (fun w' (hx : Ext w w') => great_any f P w' x y z u (ht.ext hx) (by omega))
  have HG' := Lib.hid (fun w' (hx : Ext w w') => great_any g Q w' x' y' z' u' (hu.ext hx) (by omega))
  have HW := Lib.hid (fun w' (hx : Ext w w') => wakes13_any w' m (hx.cell hm))
  obtain ⟨b1, c1, b2, c2, b3, c3, rfl, rfl, rfl, rfl⟩ := ht.cells
  obtain ⟨p1, q1, p2, q2, p3, q3, rfl, rfl, rfl, rfl⟩ := hu.cells
  clear ht hu
  obtain ⟨W, hW⟩ : ∃ W, W = (w.alloc (.cells #[.int .i64 f.op, .slice b1 f.vars.length c1, .slice b2 f.terms.length c2, .slice b3 f.args.length c3] 29)).alloc (.cells #[.int .i64 g.op, .slice p1 g.vars.length q1, .slice p2 g.terms.length q2, .slice p3 g.args.length q3] 29) := ⟨_, rfl⟩
  have hx : Ext w W := by rw [hW]; exact (ext_alloc _ _).alloc _
  obtain ⟨⟨k0, -⟩, ⟨k1, -⟩, ⟨k2, -⟩, ⟨k3, -⟩⟩ := Own.cells4 (Own.ext (own4 w (.int .i64 f.op) (.slice b1 f.vars.length c1) (.slice b2 f.terms.length c2) (.slice b3 f.args.length c3) 29) (ext_alloc _ (.cells #[.int .i64 g.op, .slice p1 g.vars.length q1, .slice p2 g.terms.length q2, .slice p3 g.args.length q3] 29)))
  obtain ⟨⟨l0, -⟩, ⟨l1, -⟩, ⟨l2, -⟩, ⟨l3, -⟩⟩ := Own.cells4 (own4 (w.alloc (.cells #[.int .i64 f.op, .slice b1 f.vars.length c1, .slice b2 f.terms.length c2, .slice b3 f.args.length c3] 29)) (.int .i64 g.op) (.slice p1 g.vars.length q1) (.slice p2 g.terms.length q2) (.slice p3 g.args.length q3) 29)
  rw [World.size_alloc] at l0 l1 l2 l3
  rw [← hW] at k0 k1 k2 k3 l0 l1 l2 l3
  rcases hgr with h1 | ⟨h1, h2⟩
  · rw [h1] at HG
    clear h1 HG'
    go_enter Tryz.func6, Tryz.ntmps6
    go_upto_region 1 with fail
    rw [← hW]
    clear hW
    go_wp2_with (first
      | (go_at_call 17; refine (HG.out _ hx).mono ?_; rintro e w1 ⟨rfl, hx1⟩)
      | (go_at_call 11; refine (HW.out _ (hx.trans hx1)).mono ?_; rintro e w6 ⟨rfl, hx6⟩))
    go_ret
    exact ⟨rfl, (hx.trans hx1).trans hx6⟩
  · rw [h1] at HG
    rw [h2] at HG'
    clear h1 h2
    go_enter Tryz.func6, Tryz.ntmps6
    go_upto_region 1 with fail
    rw [← hW]
    clear hW
    go_wp2_with (first
      | (go_at_call 11; refine (HW.out _ ((hx.trans hx1).trans hx2)).mono ?_; rintro e w6 ⟨rfl, hx6⟩)
      | (go_at_call 17; refine (HG'.out _ (hx.trans hx1)).mono ?_; rintro e w2 ⟨rfl, hx2⟩)
      | (go_at_call 17; refine (HG.out _ hx).mono ?_; rintro e w1 ⟨rfl, hx1⟩; replace l0 := hx1.cell l0; replace l1 := hx1.cell l1; replace l2 := hx1.cell l2; replace l3 := hx1.cell l3))
    go_ret
    exact ⟨rfl, ((hx.trans hx1).trans hx2).trans hx6⟩

set_option maxHeartbeats 4000000 in
set_option maxRecDepth 100000 in
theorem formChecks_small (f g : Fm) (hs : f.size ≤ 1048576) (hs' : g.size ≤ 1048576) (P Q : Nat → Prop) (w : World) (m : Int) (hm : w.cell? ⟨0, 0, none⟩ = some (.int .i64 m)) (x y z u x' y' z' u' : Value) (ht : IsFm P w x y z u f) (hu : IsFm Q w x' y' z' u' g)
    (hg1 : greatB f = false) (hg2 : greatB g = false) :
    Calls Tryz.prog 6 #[.agg #[x, y, z, u], .agg #[x', y', z', u']] w fun e w' => e = .returned (.bool true) ∧ Ext w w' := by
  have HG := Lib.hid (fun w' (hx : Ext w w') => great_any f P w' x y z u (ht.ext hx) (by omega))
  have HG' := Lib.hid (fun w' (hx : Ext w w') => great_any g Q w' x' y' z' u' (hu.ext hx) (by omega))
  have HW := Lib.hid (fun w' (hx : Ext w w') => wakes13_any w' m (hx.cell hm))
  have HC := Lib.hid (fun w' (hx : Ext w w') => lawCopyFm_any f P w' x y z u (ht.ext hx) (by omega))
  have HCk := Lib.hid (fun (R : Nat → Prop) w' a b c d (hi : IsFm R w' a b c d f) => check_any f R w' a b c d hi hs)
  have HRC := Lib.hid (fun w' (hx : Ext w w') => refCheck_any f P w' x y z u (ht.ext hx) (by omega))
  have HS := Lib.hid (fun (R : Nat → Prop) w' a b c d (hi : IsFm R w' a b c d f) (hx : Ext w w') => same_any f g R Q w' a b c d x' y' z' u' hi (hu.ext hx) (by omega) (by omega))
  have HRS := Lib.hid (fun w' (hx : Ext w w') => refSame_any f g P Q w' x y z u x' y' z' u' (ht.ext hx) (hu.ext hx) (by omega))
  have HGG := Lib.hid (fun w' (hx : Ext w w') => same_any g g Q Q w' x' y' z' u' x' y' z' u' (hu.ext hx) (hu.ext hx) (by omega) (by omega))
  have HSz := Lib.hid (fun (R : Nat → Prop) w' a b c d (hi : IsFm R w' a b c d f) => fsize_any f R w' a b c d hi (by omega))
  have HRSz := Lib.hid (fun w' (hx : Ext w w') => refFsize_any f P w' x y z u (ht.ext hx) (by omega))
  have HMF := Lib.hid (fun (R : Nat → Prop) w' a b c d (hi : IsFm R w' a b c d f) (hx : Ext w w') => refSame_any f f R P w' a b c d x y z u hi (ht.ext hx) (by omega))
  rw [Fm.same_refl] at HGG HMF
  rw [hg1] at HG
  rw [hg2] at HG'
  generalize f.check = ck at HCk HRC
  generalize f.size = sz at HSz HRSz hs
  generalize Fm.same f g = sm at HS HRS
  obtain ⟨b1, c1, b2, c2, b3, c3, rfl, rfl, rfl, rfl⟩ := ht.cells
  obtain ⟨p1, q1, p2, q2, p3, q3, rfl, rfl, rfl, rfl⟩ := hu.cells
  clear ht hu hg1 hg2 hs hs'
  obtain ⟨W, hW⟩ : ∃ W, W = (w.alloc (.cells #[.int .i64 f.op, .slice b1 f.vars.length c1, .slice b2 f.terms.length c2, .slice b3 f.args.length c3] 29)).alloc (.cells #[.int .i64 g.op, .slice p1 g.vars.length q1, .slice p2 g.terms.length q2, .slice p3 g.args.length q3] 29) := ⟨_, rfl⟩
  have hx : Ext w W := by rw [hW]; exact (ext_alloc _ _).alloc _
  obtain ⟨⟨k0, -⟩, ⟨k1, -⟩, ⟨k2, -⟩, ⟨k3, -⟩⟩ := Own.cells4 (Own.ext (own4 w (.int .i64 f.op) (.slice b1 f.vars.length c1) (.slice b2 f.terms.length c2) (.slice b3 f.args.length c3) 29) (ext_alloc _ (.cells #[.int .i64 g.op, .slice p1 g.vars.length q1, .slice p2 g.terms.length q2, .slice p3 g.args.length q3] 29)))
  obtain ⟨⟨l0, -⟩, ⟨l1, -⟩, ⟨l2, -⟩, ⟨l3, -⟩⟩ := Own.cells4 (own4 (w.alloc (.cells #[.int .i64 f.op, .slice b1 f.vars.length c1, .slice b2 f.terms.length c2, .slice b3 f.args.length c3] 29)) (.int .i64 g.op) (.slice p1 g.vars.length q1) (.slice p2 g.terms.length q2) (.slice p3 g.args.length q3) 29)
  rw [World.size_alloc] at l0 l1 l2 l3
  rw [← hW] at k0 k1 k2 k3 l0 l1 l2 l3
  go_enter Tryz.func6, Tryz.ntmps6
  go_upto_region 1 with fail
  rw [← hW]
  clear hW
  go_wp2_with (first
    | (go_at_call 19; refine (HC.out _ hx2).mono ?_; rintro e w3 ⟨⟨v, rfl, xa, xb, xc, xd, rfl, hcp⟩, hx3⟩; obtain ⟨r1, s1, r2, s2, r3, s3, rfl, rfl, rfl, rfl⟩ := IsFm.cells hcp
       (have hxA := hx3.trans (ext_alloc w3 (.cells #[.int .i64 f.op, .slice r1 f.vars.length s1, .slice r2 f.terms.length s2, .slice r3 f.args.length s3] 29)))
       replace k0 := hxA.cell k0; replace k1 := hxA.cell k1; replace k2 := hxA.cell k2; replace k3 := hxA.cell k3; replace l0 := hxA.cell l0; replace l1 := hxA.cell l1; replace l2 := hxA.cell l2; replace l3 := hxA.cell l3)
    | (go_at_call 17; refine (HG'.out _ hx1).mono ?_; rintro e w2 ⟨rfl, hx2'⟩; have hx2 := hx1.trans hx2'; replace k0 := hx2'.cell k0; replace k1 := hx2'.cell k1; replace k2 := hx2'.cell k2; replace k3 := hx2'.cell k3; replace l0 := hx2'.cell l0; replace l1 := hx2'.cell l1; replace l2 := hx2'.cell l2; replace l3 := hx2'.cell l3)
    | (go_at_call 17; refine (HG.out _ hx).mono ?_; rintro e w1 ⟨rfl, hx1'⟩; have hx1 := hx.trans hx1'; replace k0 := hx1'.cell k0; replace k1 := hx1'.cell k1; replace k2 := hx1'.cell k2; replace k3 := hx1'.cell k3; replace l0 := hx1'.cell l0; replace l1 := hx1'.cell l1; replace l2 := hx1'.cell l2; replace l3 := hx1'.cell l3))
  have hcpV := hcp.ext (ext_alloc w3 (.cells #[.int .i64 f.op, .slice r1 f.vars.length s1, .slice r2 f.terms.length s2, .slice r3 f.args.length s3] 29))
  obtain ⟨⟨m0, -⟩, ⟨m1, -⟩, ⟨m2, -⟩, ⟨m3, -⟩⟩ := Own.cells4 (own4 w3 (.int .i64 f.op) (.slice r1 f.vars.length s1) (.slice r2 f.terms.length s2) (.slice r3 f.args.length s3) 29)
  have hxV := hx2.trans hxA
  clear hcp
  clear hx3 hxA
  generalize hV : (w3.alloc (.cells #[.int .i64 f.op, .slice r1 f.vars.length s1, .slice r2 f.terms.length s2, .slice r3 f.args.length s3] 29)) = V at *
  clear hV
  generalize w3.heap.size = n at *
  have HF := Lib.hid (fun w' (hx : Ext V w') => hcpV.ext hx)
  have HX := Lib.hid (fun w' (hx : Ext V w') => hxV.trans hx)
  clear hcpV
  go_region_held3 (fun w' => w'.cell? ⟨w.heap.size, 0, none⟩ = some (.int .i64 f.op) ∧ w'.cell? ⟨w.heap.size, 1, none⟩ = some (.slice b1 f.vars.length c1) ∧ w'.cell? ⟨w.heap.size, 2, none⟩ = some (.slice b2 f.terms.length c2) ∧ w'.cell? ⟨w.heap.size, 3, none⟩ = some (.slice b3 f.args.length c3) ∧ w'.cell? ⟨w.heap.size + 1, 0, none⟩ = some (.int .i64 g.op) ∧ w'.cell? ⟨w.heap.size + 1, 1, none⟩ = some (.slice p1 g.vars.length q1) ∧ w'.cell? ⟨w.heap.size + 1, 2, none⟩ = some (.slice p2 g.terms.length q2) ∧ w'.cell? ⟨w.heap.size + 1, 3, none⟩ = some (.slice p3 g.args.length q3) ∧ w'.cell? ⟨n, 0, none⟩ = some (.int .i64 f.op) ∧ w'.cell? ⟨n, 1, none⟩ = some (.slice r1 f.vars.length s1) ∧ w'.cell? ⟨n, 2, none⟩ = some (.slice r2 f.terms.length s2) ∧ w'.cell? ⟨n, 3, none⟩ = some (.slice r3 f.args.length s3) ∧ Ext V w')
    (((try go_split_ands); refine ⟨?_, ?_, ?_, ?_, ?_, ?_, ?_, ?_, ?_, ?_, ?_, ?_, ?_⟩ <;> first | (with_reducible assumption) | exact Below.drew (Below.refl _ _) | exact Ext.drew (by assumption) | exact Ext.drew (ext_alloc _ _) | (apply Ext.cell hw'; (with_reducible assumption)) | exact Ext.trans (by assumption) hw' | exact Ext.frozen hw' (by (with_reducible assumption)) (by (with_reducible assumption)) | (go_keep; done)))
    (first
      | (go_at_call 21; go_split_ands; with_reducible refine (HCk.out _ _ _ _ _ _ (HF.out _ (by assumption))).mono ?_; rintro e w' ⟨rfl, hw'⟩)
      | (go_at_call 22; go_split_ands; with_reducible refine (HRC.out _ (HX.out _ (by assumption))).mono ?_; rintro e w' ⟨rfl, hw'⟩)
      | (go_at_call 24; go_split_ands; with_reducible refine (HSz.out _ _ _ _ _ _ (HF.out _ (by assumption))).mono ?_; rintro e w' ⟨rfl, hw'⟩)
      | (go_at_call 25; go_split_ands; with_reducible refine (HRSz.out _ (HX.out _ (by assumption))).mono ?_; rintro e w' ⟨rfl, hw'⟩)
      | (go_at_call 14; go_split_ands; with_reducible refine (HRS.out _ (HX.out _ (by assumption))).mono ?_; rintro e w' ⟨rfl, hw'⟩)
      | (go_at_call 23; go_split_ands; first
          | (with_reducible refine (HGG.out _ (HX.out _ (by assumption))).mono ?_; rintro e w' ⟨rfl, hw'⟩)
          | (with_reducible refine (HS.out _ _ _ _ _ _ (HF.out _ (by assumption)) (HX.out _ (by assumption))).mono ?_; rintro e w' ⟨rfl, hw'⟩)))
  go_split_ands
  have hxE : Ext V w' := by assumption
  go_wp2_with (first
    | (go_at_call 11; refine (HW.out _ ((hxV.trans hxE).trans hx7)).mono ?_; rintro e w8 ⟨rfl, hx8⟩)
    | (go_at_call 14; refine (HMF.out _ _ _ _ _ _ (HF.out _ hxE) (hxV.trans hxE)).mono ?_; rintro e w7 ⟨rfl, hx7⟩))
  go_ret
  exact ⟨rfl, ((hxV.trans hxE).trans hx7).trans hx8⟩

theorem formChecks_any (f g : Fm) (hs : f.size ≤ 1048576) (hs' : g.size ≤ 1048576) (P Q : Nat → Prop) (w : World) (m : Int) (hm : w.cell? ⟨0, 0, none⟩ = some (.int .i64 m)) (x y z u x' y' z' u' : Value) (ht : IsFm P w x y z u f) (hu : IsFm Q w x' y' z' u' g) :
    Calls Tryz.prog 6 #[.agg #[x, y, z, u], .agg #[x', y', z', u']] w fun e w' => e = .returned (.bool true) ∧ Ext w w' := by
  cases h1 : greatB f with
  | true => exact formChecks_great f g hs hs' P Q w m hm x y z u x' y' z' u' ht hu (.inl h1)
  | false =>
    cases h2 : greatB g with
    | true => exact formChecks_great f g hs hs' P Q w m hm x y z u x' y' z' u' ht hu (.inr ⟨h1, h2⟩)
    | false => exact formChecks_small f g hs hs' P Q w m hm x y z u x' y' z' u' ht hu h1 h2
end Go.Proofs.YtnclgkdpafhogaaGreat
