/- Rows of numbers: from a reading of an argument to numbers in memory; what syllogismlaw02.numbers returns. -/
import Derived.Test.YtoidhdcbemmfhaaDoorOpen
import Derived.Test.YtoidhdcbemmfhaaDoorAt
import Derived.Deep.QuietTactic
namespace Go.Proofs.YtoidhdcbemmfhaaDoor
open Go.ChangeShapes Go.WideShapes Go.ChangeAt Go.RowKit

theorem IsInts.look {w : World} {a : Option Addr} {l : List Int} (h : IsInts w a l) {i : Nat} (hi : i < l.length) : ∃ b o, a = some ⟨b, o, none⟩ ∧ w.cell? ⟨b, o + i, none⟩ = some (.int .i64 l[i]) := by
  obtain ⟨-, -, b, o, h1, h2⟩ := h i hi
  exact ⟨b, o, h1, h2⟩

section
variable {H : Type} {enc : TypeId × Value → H} {w : World} {base : Nat} {spare : Nat → Bool} {held : Bool}
theorem cells1_of {a : Addr} {cs : List Value} (h : w.cells? base a 1 = some cs) : ∃ x b o, a = ⟨b, o, none⟩ ∧ cs = [x] ∧ w.cell? ⟨b, o, none⟩ = some x := by
  obtain ⟨-, hl, hc⟩ := World.cells?_some h
  match cs, hl with
  | [x], _ =>
    have c0 := hc 0 (by omega)
    obtain ⟨b, o, sp⟩ := a
    have hsp : sp = none := by simpa [Addr.add] using World.cell?_spot (show w.cell? ((⟨b, o, sp⟩ : Addr).add 0) = some x by simpa using c0)
    subst hsp
    exact ⟨x, b, o, rfl, rfl, by simpa [Addr.add] using c0⟩

set_option maxRecDepth 100000 in
theorem open_pos {r : Reach} {b0 : Nat} {v : Value} {d : DataW H} {p : List MemPlace} (hv : Value.okWide Tryd.prog w r b0 41 v) (h : DataW.Trod enc Tryd.prog w base spare held 41 v d p) (hk : Rows.uptoBulk d ≤ 1048576) :
    ∃ a l c, v = .slice a l.length c ∧ l.length ≤ c ∧ c ≤ 9223372036854775807 ∧ IsInts w a l ∧ l.length ≤ 1048576 := by
  obtain ⟨a0, len0, cap0, rfl⟩ := okWide_slice Tryd.underlying41 hv
  obtain ⟨fuel, hf⟩ := h
  simp only [Value.cells] at hf
  rcases DataW.trod_slice Tryd.underlying41 hf with ⟨hcs, hx⟩ | ⟨a, len, cap, elems, rest, m, rfl, hcs, hx, hb, hlc, hcm, hel, hrd, -, -⟩
  · injection hcs with hcs _
    simp only [Value.slice.injEq] at hcs
    obtain ⟨rfl, rfl, rfl⟩ := hcs
    exact ⟨none, [], 0, rfl, Nat.le_refl _, by omega, fun i hi => by simp at hi, by simp⟩
  · injection hcs with hcs _
    simp only [Value.slice.injEq] at hcs
    obtain ⟨rfl, rfl, rfl⟩ := hcs
    rw [cellsInt] at hrd
    simp only [Prod.mk.injEq] at hx
    obtain ⟨rfl, -⟩ := hx
    simp only [Rows.uptoBulk] at hk
    have hlb := bulk_length (elems.map (·.1))
    rw [List.length_map] at hlb
    have each : ∀ j, j < elems.length → ∃ (n : Int) (b o : Nat), a.add j = ⟨b, o, none⟩ ∧ w.cell? ⟨b, o, none⟩ = some (.int .i64 n) ∧ -9223372036854775808 ≤ n ∧ n ≤ 9223372036854775807 := by
      intro j hj
      have hb := hrd j (by omega)
      rw [Nat.mul_one, List.getElem?_eq_getElem hj, Option.bind_eq_some_iff] at hb
      obtain ⟨cs', hcs', hy'⟩ := hb
      obtain ⟨x, b, o, e1, rfl, e3⟩ := cells1_of hcs'
      obtain ⟨n, q, -, hwf⟩ := DataW.trod_int Tryd.underlying3 hy'
      injection q with q _
      subst q
      obtain ⟨w1, w2⟩ := int_wf hwf
      exact ⟨n, b, o, e1, e3, w1, w2⟩
    let g : Fin elems.length → Int := fun j => Classical.choose (each j.1 j.2)
    have hg : ∀ j, _ := fun j : Fin elems.length => Classical.choose_spec (each j.1 j.2)
    refine ⟨some a, List.ofFn g, cap0, by rw [List.length_ofFn, hel], by rw [List.length_ofFn, hel]; exact hlc, by simp [maxLen] at hcm; omega, ?_, by rw [List.length_ofFn]; omega⟩
    intro i hi
    have hi' : i < elems.length := by simpa using hi
    obtain ⟨b1, o1, k1, -⟩ := hg ⟨0, by omega⟩
    have ha := addr_add0 k1
    obtain ⟨b, o, k2, k3, k4, k5⟩ := hg ⟨i, hi'⟩
    subst ha
    rw [add_plain] at k2
    injection k2 with e1 e2 _
    subst e1; subst e2
    rw [List.getElem_ofFn]
    exact ⟨k4, k5, b1, o1, rfl, k3⟩
end

theorem take_eq_step {l1 l2 : List Int} {k : Nat} (h1 : k < l1.length) (h2 : k < l2.length) (h : l1.take k = l2.take k) (he : l1[k] = l2[k]) : l1.take (k + 1) = l2.take (k + 1) := by
  rw [List.take_succ_eq_append_getElem h1, List.take_succ_eq_append_getElem h2, h, he]

set_option maxHeartbeats 1000000 in
set_option maxRecDepth 100000 in
theorem numbers_any (l1 l2 : List Int) (w : World) (a1 a2 : Option Addr) (c1 c2 : Nat) (h1 : IsInts w a1 l1) (h2 : IsInts w a2 l2) (hl1 : l1.length ≤ 9000000000000000000) (hl2 : l2.length ≤ 9000000000000000000) :
    Calls Tryd.prog 27 #[.slice a1 l1.length c1, .slice a2 l2.length c2] w fun e w' => e = .returned (.bool (decide (l1 = l2))) ∧ Ext w w' := by
  by_cases hle : l1.length = l2.length
  · have Hle := Lib.hid hle
    rw [← hle]
    clear hle
    go_enter Tryd.func27, Tryd.ntmps27
    go_wp2_with fail
    go_loopw [13] (fun i wr => ∃ k : Nat, k ≤ l1.length ∧ i = .int .i64 k ∧ l1.take k = l2.take k ∧ Ext w wr) (fun i _ => l1.length - (intOf i).toNat)
    case atStart => exact ⟨0, Nat.zero_le _, rfl, rfl, Below.refl _ _⟩
    case round =>
      obtain ⟨k, hkk, rfl, hck, hext⟩ := hrel
      have Hck := Lib.hid hck; clear hck
      by_cases hlt : k < l1.length
      · have hk1 : (k : Int) < l1.length := by omega
        have hlt2 : k < l2.length := by rw [← Hle.out]; exact hlt
        obtain ⟨b, o, rfl, m1⟩ := h1.look hlt
        obtain ⟨b2, o2, rfl, m2⟩ := h2.look hlt2
        have g1 := hext.cell m1
        have g2 := hext.cell m2
        by_cases he : l1[k] = l2[k]
        · have hb : (l1[k] != l2[k]) = false := by simpa using he
          have He := Lib.hid he; clear he
          go_wp2_with fail
          go_quiet (fail)
          go_wp2_with fail
          go_roundw
          case rel => exact ⟨k + 1, by omega, by go_num, take_eq_step hlt hlt2 Hck.out He.out, hext.drewN _⟩
          case measure => simp [intOf]; omega
        · have hb : (l1[k] != l2[k]) = true := by simpa using he
          have He := Lib.hid he; clear he
          go_wp2_with fail
          go_quiet (fail)
          go_wp2_with fail
          go_ret
          have hn : ¬ l1 = l2 := by
            intro h
            subst h
            exact He.out rfl
          rw [decide_eq_false hn]
          exact ⟨rfl, hext.drewN _⟩
      · have hk1 : ¬ (k : Int) < l1.length := by omega
        have hke : k = l1.length := by omega
        go_wp2_with fail
        go_ret
        have h := Hck.out
        rw [hke, List.take_length, Hle.out, List.take_length] at h
        rw [decide_eq_true h]
        exact ⟨rfl, hext⟩
  · have hne : ((l1.length : Int) != (l2.length : Int)) = true := by rw [bne_iff_ne]; omega
    have hn : ¬ l1 = l2 := fun h => hle (by rw [h])
    rw [decide_eq_false hn]
    clear hn
    go_enter Tryd.func27, Tryd.ntmps27
    go_wp2_with fail
    go_ret
    exact ⟨rfl, Below.refl _ _⟩
end Go.Proofs.YtoidhdcbemmfhaaDoor
