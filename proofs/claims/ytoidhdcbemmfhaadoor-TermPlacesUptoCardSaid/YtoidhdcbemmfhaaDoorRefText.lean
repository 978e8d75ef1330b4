/- What the reference's Digits (below 100), words and Text of layer 2 return. -/
import Derived.Test.YtoidhdcbemmfhaaDoorText
import Derived.Test.YtoidhdcbemmfhaaDoorRefCheck
namespace Go.Proofs.YtoidhdcbemmfhaaDoor
open Go.ChangeShapes Go.WideShapes Go.ChangeAt Go.RowKit

theorem decDigits_step (n : Nat) (h : 9 < n) : Lib.decDigits n = Lib.decDigits (n / 10) ++ [UInt8.ofNat (48 + n % 10)] := by
  rw [Lib.decDigits, dif_neg (by omega)]
theorem decDigits_last (n : Nat) (h : n ≤ 9) : Lib.decDigits n = [UInt8.ofNat (48 + n)] := by
  rw [Lib.decDigits, dif_pos (by omega)]

theorem one_app (x : UInt8) (tl : List UInt8) : (⟨#[x]⟩ : ByteArray) ++ ⟨tl.toArray⟩ = ⟨(x :: tl).toArray⟩ := by
  apply ByteArray.ext; simp
theorem add_byte (n : Nat) : 48 + UInt8.ofNat n = UInt8.ofNat (48 + n) := by
  rw [UInt8.ofNat_add]; rfl
/-- a slice of one byte that was just made, as a text -/
theorem conv_one (w : World) (x : Int) : (convert 76 9 (.slice (some ⟨w.heap.size, 0, none⟩) 1 1)).run Tryd.prog (w.alloc (.cells #[.int .u8 x] 5)) = .ok (.string ⟨#[UInt8.ofNat x.toNat]⟩) (w.alloc (.cells #[.int .u8 x] 5)) := by
  rw [run_convert_bytes_string _ _ _ _ _ _ _ Tryd.underlying76 Tryd.underlying5 Tryd.underlying9]
  rw [run_bytesToString _ _ _ _ [x] (by go_simp)]
  rfl

set_option maxHeartbeats 1000000 in
set_option maxRecDepth 100000 in
theorem digits_any (i : Nat) (hi : (i : Int) ≤ 9000000000000000000) (w : World) :
    Calls Tryd.prog 96 #[.int .i64 i] w fun e w' => e = .returned (.string ⟨(Lib.decDigits i).toArray⟩) ∧ Ext w w' := by
  have hcv := conv_one
  go_enter Tryd.func96, Tryd.ntmps96
  go_wp2_with fail
  go_loopw [0, 3] (fun nv sv wr => ∃ (n : Nat) (tl : List UInt8), nv = .int .i64 n ∧ tl.length + n ≤ i ∧ sv = .string ⟨tl.toArray⟩ ∧ Lib.decDigits i = Lib.decDigits n ++ tl ∧ Ext w wr) (fun nv _ _ => (intOf nv).toNat)
  case atStart => exact ⟨i, [], rfl, by simp, rfl, by simp, Below.refl _ _⟩
  case round =>
    obtain ⟨n, tl, rfl, hni, rfl, hd, hext⟩ := hrel
    have Hd := Lib.hid hd; clear hd
    have hn : (n : Int) ≤ 9223372036854775807 := by omega
    by_cases h9 : 9 < n
    · have h9' : (9 : Int) < (n : Int) := by omega
      have Hst := Lib.hid (decDigits_step n h9)
      have hb : (1 : Int) + tl.length ≤ 9223372036854775807 := by omega
      have hb2 : 1 + tl.length ≤ 9223372036854775807 := by omega
      go_wp2_with fail
      go_roundw
      case rel => exact ⟨n / 10, UInt8.ofNat (48 + n % 10) :: tl, by simp, by simp; omega, congrArg Value.string (by rw [one_app, add_byte]), by rw [Hd.out, Hst.out]; simp, hext.alloc _⟩
      case measure => simp [intOf]; omega
    · have h9' : ¬ (9 : Int) < (n : Int) := by omega
      have Hst := Lib.hid (decDigits_last n (by omega))
      have hb : (1 : Int) + tl.length ≤ 9223372036854775807 := by omega
      have hb2 : 1 + tl.length ≤ 9223372036854775807 := by omega
      go_wp2_with fail
      go_ret
      refine ⟨congrArg (fun x => Ending.returned (.string x)) ?_, hext.alloc _⟩
      rw [Hd.out, Hst.out]
      show (⟨#[48 + UInt8.ofNat n]⟩ : ByteArray) ++ ⟨tl.toArray⟩ = _
      rw [one_app, add_byte]; rfl

theorem app_arr (a b : List UInt8) : (⟨a.toArray⟩ : ByteArray) ++ ⟨b.toArray⟩ = ⟨(a ++ b).toArray⟩ := by
  apply ByteArray.ext; simp
theorem app_name (n : ByteArray) (b : List UInt8) : n ++ ⟨b.toArray⟩ = ⟨(n.data.toList ++ b).toArray⟩ := by
  apply ByteArray.ext; simp
theorem name_arr (n : ByteArray) : n = ⟨n.data.toList.toArray⟩ := by
  apply ByteArray.ext; simp
theorem arr_size (a : List UInt8) : (⟨a.toArray⟩ : ByteArray).size = a.length := rfl

theorem app_lit (a : List UInt8) (x : UInt8) : (⟨a.toArray⟩ : ByteArray) ++ ⟨#[x]⟩ = ⟨(a ++ [x]).toArray⟩ := app_arr a [x]

set_option maxHeartbeats 2000000 in
set_option maxRecDepth 100000 in
theorem words_any (l : List Sy) (_hl : l.length ≤ 1048576) (t : Tm) : ∀ (w : World) (a : Option Addr) (c : Nat) (x s : Value) (top : Bool), IsSyms w a l → IsTm w x s t → t.size ≤ 300 → t.low 48 = true → t.over l top = true → (t.text l).length ≤ 1000000000000 →
    Calls Tryd.prog 51 #[.agg #[.slice a l.length c], .agg #[x, s]] w fun e w' => e = .returned (.string ⟨(t.text l).toArray⟩) ∧ Ext w w' := by
  induction t using Tm.ind with
  | h f ks ih =>
    intro w a c x s top hsy ht hs hlow hov hlen
    simp only [IsTm] at ht
    obtain ⟨rfl, hf1, hf2, a', c', rfl, hc, hk⟩ := ht
    simp only [Tm.size] at hs
    have Hih := Lib.hid ih; clear ih
    by_cases hf : f < 0
    · have htext : Tm.text l (.mk f ks) = 88 :: Lib.decDigits (-1 - f).toNat := by simp [Tm.text, hf]
      have hm : -48 ≤ f := by
        simp only [Tm.low, if_pos hf, Bool.and_eq_true, decide_eq_true_eq] at hlow; exact hlow.1
      obtain ⟨i, rfl⟩ : ∃ i : Nat, f = -1 - (i : Int) := ⟨(-1 - f).toNat, by omega⟩
      have hi : i < 100 := by omega
      have e1 : (-1 : Int) - (-1 - (i : Int)) = i := by omega
      rw [htext, e1, Int.toNat_natCast]
      have hdl := digits_le i hi
      have hb : 1 + (Lib.decDigits i).length ≤ 9223372036854775807 := by omega
      clear hlow hov htext hlen
      go_enter Tryd.func51, Tryd.ntmps51
      go_wp2_with (go_at_call 96; refine (digits_any i (by omega) _).mono ?_; rintro e w' ⟨rfl, hx1⟩)
      go_ret
      exact ⟨congrArg (fun x => Ending.returned (.string x)) (one_app 88 _), Ext.trans (by go_grown) hx1⟩
    · obtain ⟨i, rfl⟩ : ∃ i : Nat, f = i := ⟨f.toNat, by omega⟩
      simp only [Tm.low, if_neg hf] at hlow
      simp only [Tm.over, Bool.and_eq_true, Bool.or_eq_true, decide_eq_true_eq] at hov
      obtain ⟨hov1, hov2⟩ := hov
      replace hov2 := hov2.resolve_left hf
      have hil : i < l.length := by
        rcases Nat.lt_or_ge i l.length with h | h
        · exact h
        · rw [okAt_nat, List.getElem?_eq_none h] at hov1; cases hov1
      have htext := text_nat l i ks hil
      rw [htext] at hlen
      simp only [List.length_append] at hlen
      generalize Tm.text l (.mk i ks) = T at htext ⊢
      have Htext := Lib.hid htext; clear htext
      obtain ⟨b2, o2, rfl, hok2, g0, g1, g2⟩ := hsy.look hil
      have gt : decide ((i : Int) < 0) = false := decide_eq_false hf
      have hil3 : (i : Int) < l.length := by omega
      generalize hq : l[i] = q at hok2 g0 g1 g2 Htext hlen
      clear hq g1 g2 hov1 hf
      obtain ⟨n, ar, p⟩ := q
      simp only at g0 Htext hlen
      obtain ⟨W, hW⟩ : ∃ W, W = ((w.alloc (.cells #[.slice (some ⟨b2, o2, none⟩) l.length c] 24)).alloc (.cells #[.int .i64 i, .slice a' ks.length c'] 27)) := ⟨_, rfl⟩
      have hx : Ext w W := by subst hW; go_grown
      have k0 : W.cell? ⟨w.heap.size, 0, none⟩ = some (.slice (some ⟨b2, o2, none⟩) l.length c) := by subst hW; go_simp
      have k2 : W.cell? ⟨w.heap.size + 1, 1, none⟩ = some (.slice a' ks.length c') := by subst hW; go_simp
      have g0' := hx.cell g0
      subst hW
      have Hx := Lib.hid hx; clear hx
      have hnl : n.data.toList.length = n.size := by simp
      have Hnl := Lib.hid hnl; clear hnl
      go_enter Tryd.func51, Tryd.ntmps51
      go_wp2_with fail
      go_loopw [5, 6] (fun sv iv wr => ∃ (k : Nat) (sb : ByteArray), k ≤ ks.length ∧ iv = .int .i64 k ∧ sv = .string sb ∧ sb = ⟨(n.data.toList ++ Tm.textArgs l 40 (ks.take k)).toArray⟩ ∧ Ext w wr ∧ wr.cell? ⟨w.heap.size, 0, none⟩ = some (.slice (some ⟨b2, o2, none⟩) l.length c) ∧ wr.cell? ⟨w.heap.size + 1, 1, none⟩ = some (.slice a' ks.length c')) (fun _ i _ => ks.length - (intOf i).toNat)
      case atStart => exact ⟨0, n, Nat.zero_le _, rfl, rfl, by simp [Tm.textArgs], Hx.out, k0, k2⟩
      case round =>
        obtain ⟨k, sb, hkk, rfl, rfl, hsb, hext, d0, d2⟩ := hrel
        have hkl := length_le_sizes ks
        have hsz : sb.size = n.data.toList.length + (Tm.textArgs l 40 (ks.take k)).length := by rw [hsb, arr_size, List.length_append]
        have Hsb := Lib.hid hsb; clear hsb
        clear k0 k2 g0'
        by_cases hlt : k < ks.length
        · have hst := textArgs_take l ks 40 k hlt
          have hle := textArgs_take_le l ks 40 (k + 1)
          rw [hst] at hle
          simp only [List.length_append, List.length_cons] at hle
          have hsb2 : sb.size + 1 + (ks[k].text l).length ≤ 1000000000000 := by omega
          have Hst := Lib.hid hst; clear hst
          have Hsz := Lib.hid hsz; clear hsz
          have hke := hk.ext hext
          obtain ⟨b, o, a2, c2, rfl, h1', h2, h3⟩ := hke.look hlt
          have hk1 : (k : Int) < ks.length := by omega
          have hk0 : (0 : Int) ≤ (k : Int) := by omega
          have hsy' := hsy.ext hext
          have hm : ∀ w3, Ext wr w3 → Calls Tryd.prog 51 #[.agg #[.slice (some ⟨b2, o2, none⟩) l.length c], .agg #[.int .i64 ks[k].f, .slice a2 ks[k].ks.length c2]] w3 fun e w' => e = .returned (.string ⟨(ks[k].text l).toArray⟩) ∧ Ext w3 w' :=
            fun w3 h => Hih.out _ (List.getElem_mem hlt) w3 _ c _ _ false (hsy'.ext h) (h3.ext h) (by have := size_le_sizes hlt; omega) (lows_at' hlow hlt) (overs_at hov2 hlt) (by omega)
          have Hm := Lib.hid hm; clear hm hle
          have hq1 : sb.size + 1 ≤ 9223372036854775807 := by omega
          have hq2 : sb.size + 1 + (ks[k].text l).length ≤ 9223372036854775807 := by omega
          by_cases hz : k = 0
          · have hzb : ((k : Int) == 0) = true := by simp [hz]
            have Hcb := Lib.hid (show (if k = 0 then (40 : UInt8) else 44) = 40 by rw [if_pos hz])
            clear hz
            have hq3 : ¬ 9223372036854775807 < sb.size + 1 + (ks[k].text l).length := Nat.not_lt.2 hq2
            go_wp2_with fail
            go_region_held3 (fun w' => w'.cell? ⟨w.heap.size, 0, none⟩ = some (.slice (some ⟨b2, o2, none⟩) l.length c) ∧ w'.cell? ⟨w.heap.size + 1, 1, none⟩ = some (.slice (some ⟨b, o, none⟩) ks.length c') ∧ w'.cell? ⟨b, o + k * 2, none⟩ = some (.int .i64 ks[k].f) ∧ w'.cell? ⟨b, o + k * 2 + 1, none⟩ = some (.slice a2 ks[k].ks.length c2) ∧ Ext wr w')
              (((try go_split_ands); refine ⟨?_, ?_, ?_, ?_, ?_⟩ <;> first | (with_reducible assumption) | exact Below.drew (Below.refl _ _) | exact Ext.drew (by assumption) | exact Ext.drew (ext_alloc _ _) | (apply Ext.cell hw'; (with_reducible assumption)) | exact Ext.trans (by assumption) hw' | exact Ext.frozen hw' (by (with_reducible assumption)) (by (with_reducible assumption)) | (go_keep; done)))
              ((go_at_call 51; go_split_ands; refine (Hm.out _ (by assumption)).mono ?_; rintro e w' ⟨rfl, hw'⟩))
            go_split_ands
            go_wp2_with fail
            go_roundw
            case rel => exact ⟨k + 1, _, by omega, by go_num, rfl, by rw [Hsb.out, Hst.out, Hcb.out]; simp only [app_arr]; simp, Ext.trans hext (by assumption), by assumption, by assumption⟩
            case measure => simp [intOf]; omega
          · have hzb : ((k : Int) == 0) = false := by rw [beq_eq_false_iff_ne]; omega
            have Hcb := Lib.hid (show (if k = 0 then (40 : UInt8) else 44) = 44 by rw [if_neg hz])
            clear hz
            have hq3 : ¬ 9223372036854775807 < sb.size + 1 + (ks[k].text l).length := Nat.not_lt.2 hq2
            go_wp2_with fail
            go_region_held3 (fun w' => w'.cell? ⟨w.heap.size, 0, none⟩ = some (.slice (some ⟨b2, o2, none⟩) l.length c) ∧ w'.cell? ⟨w.heap.size + 1, 1, none⟩ = some (.slice (some ⟨b, o, none⟩) ks.length c') ∧ w'.cell? ⟨b, o + k * 2, none⟩ = some (.int .i64 ks[k].f) ∧ w'.cell? ⟨b, o + k * 2 + 1, none⟩ = some (.slice a2 ks[k].ks.length c2) ∧ Ext wr w')
              (((try go_split_ands); refine ⟨?_, ?_, ?_, ?_, ?_⟩ <;> first | (with_reducible assumption) | exact Below.drew (Below.refl _ _) | exact Ext.drew (by assumption) | exact Ext.drew (ext_alloc _ _) | (apply Ext.cell hw'; (with_reducible assumption)) | exact Ext.trans (by assumption) hw' | exact Ext.frozen hw' (by (with_reducible assumption)) (by (with_reducible assumption)) | (go_keep; done)))
              ((go_at_call 51; go_split_ands; refine (Hm.out _ (by assumption)).mono ?_; rintro e w' ⟨rfl, hw'⟩))
            go_split_ands
            go_wp2_with fail
            go_roundw
            case rel => exact ⟨k + 1, _, by omega, by go_num, rfl, by rw [Hsb.out, Hst.out, Hcb.out]; simp only [app_arr]; simp, Ext.trans hext (by assumption), by assumption, by assumption⟩
            case measure => simp [intOf]; omega
        · have : k = ks.length := by omega
          subst this
          rw [List.take_length] at Hsb hsz
          by_cases h0 : 0 < ks.length
          · have h0i : (0 : Int) < (ks.length : Int) := by omega
            rw [if_pos h0] at Htext hlen
            simp only [List.length_cons, List.length_nil] at hlen
            have hq1 : sb.size + 1 ≤ 9223372036854775807 := by omega
            have hq3 : ¬ 9223372036854775807 < sb.size + 1 := Nat.not_lt.2 hq1
            have Hsz := Lib.hid hsz; clear hsz
            go_wp2_with fail
            go_ret
            refine ⟨congrArg (fun x => Ending.returned (.string x)) ?_, hext⟩
            rw [Htext.out]
            show sb ++ ⟨#[41]⟩ = _
            rw [Hsb.out]
            simp only [app_arr]
            simp
          · have h0i : decide ((0 : Int) < (ks.length : Int)) = false := decide_eq_false (by omega)
            rw [if_neg h0] at Htext
            go_wp2_with fail
            go_ret
            refine ⟨congrArg (fun x => Ending.returned (.string x)) ?_, hext⟩
            rw [Htext.out]
            show sb = _
            rw [Hsb.out]; simp

set_option maxHeartbeats 1000000 in
set_option maxRecDepth 100000 in
theorem refText_any (l : List Sy) (hl : l.length ≤ 1048576) (t : Tm) (hs : t.size ≤ 2097152) (w : World) (a : Option Addr) (c : Nat) (_hlc : l.length ≤ c) (_hc63 : c ≤ 9223372036854775807) (hsy : IsSyms w a l) (x s : Value) (ht : IsTm w x s t) :
    Calls Tryd.prog 13 #[.agg #[.slice a l.length c], .agg #[x, s]] w fun e w' => e = .returned (.tuple #[.string ⟨(termText l t).toArray⟩, .int .i64 (termCheck l t)]) ∧ Ext w w' := by
  have ht0 := ht
  obtain ⟨a', c', rfl, rfl, -, -, -, -⟩ := ht.form
  obtain ⟨W, hW⟩ : ∃ W, W = ((w.alloc (.cells #[.slice a l.length c] 24)).alloc (.cells #[.int .i64 t.f, .slice a' t.ks.length c'] 27)) := ⟨_, rfl⟩
  have hx : Ext w W := by subst hW; go_grown
  have k0 : W.cell? ⟨w.heap.size, 0, none⟩ = some (.slice a l.length c) := by subst hW; go_simp
  have k1 : W.cell? ⟨w.heap.size + 1, 0, none⟩ = some (.int .i64 t.f) := by subst hW; go_simp
  have k2 : W.cell? ⟨w.heap.size + 1, 1, none⟩ = some (.slice a' t.ks.length c') := by subst hW; go_simp
  have hch := refTermCheck_any l hl t hs W a c (hsy.ext hx) _ _ (ht0.ext hx)
  subst hW
  have Hx := Lib.hid hx; clear hx
  have Hch := Lib.hid hch; clear hch
  have Hk := Lib.hid (And.intro k0 (And.intro k1 k2)); clear k0 k1 k2
  clear ht
  rcases termCheck_cases l t with hz | hz
  · obtain ⟨z1, z2, z3⟩ := termCheck_zero hz
    have hT : termText l t = t.text l := by unfold termText; rw [if_pos hz]
    rw [hz] at Hch
    rw [hz, hT]
    have hlen := text_le (namesOk_of hsy) t z2
    have hw : ∀ w1, Ext ((w.alloc (.cells #[.slice a l.length c] 24)).alloc (.cells #[.int .i64 t.f, .slice a' t.ks.length c'] 27)) w1 → _ :=
      fun w1 hx1 => words_any l hl t w1 a c _ _ true (hsy.ext (Ext.trans Hx.out hx1)) (ht0.ext (Ext.trans Hx.out hx1)) z1 z2 z3 (by omega)
    have Hw := Lib.hid hw; clear hw hT hz z1 z2 z3 hlen
    go_enter Tryd.func13, Tryd.ntmps13
    go_wp2_with (first
      | (go_at_call 15; refine (Hch.out).mono ?_; rintro e w1 ⟨rfl, hx1⟩
         obtain ⟨k0, k1, k2⟩ : w1.cell? ⟨w.heap.size, 0, none⟩ = some (.slice a l.length c) ∧ w1.cell? ⟨w.heap.size + 1, 0, none⟩ = some (.int .i64 t.f) ∧ w1.cell? ⟨w.heap.size + 1, 1, none⟩ = some (.slice a' t.ks.length c') := ⟨hx1.cell Hk.out.1, hx1.cell Hk.out.2.1, hx1.cell Hk.out.2.2⟩)
      | (go_at_call 51; refine (Hw.out _ hx1).mono ?_; rintro e w2 ⟨rfl, hx2⟩))
    go_ret2
    exact ⟨rfl, Ext.trans Hx.out (Ext.trans hx1 hx2)⟩
  · have hT : termText l t = [] := by unfold termText; rw [if_neg (by omega)]
    rw [hz] at Hch
    rw [hz, hT]
    clear hz hT
    go_enter Tryd.func13, Tryd.ntmps13
    go_wp2_with ((go_at_call 15; refine (Hch.out).mono ?_; rintro e w1 ⟨rfl, hx1⟩))
    go_ret2
    exact ⟨rfl, Ext.trans Hx.out hx1⟩
end Go.Proofs.YtoidhdcbemmfhaaDoor
