/- What clause.size, lits.size and clause.Size return. -/
import Derived.Test.YtoidhdcbemmfhaaDoorCl1
namespace Go.Proofs.YtoidhdcbemmfhaaDoor
open Go.ChangeShapes Go.WideShapes Go.ChangeAt Go.RowKit

/-- a literal's size; a clause's -/
def Lt.size (x : Lt) : Nat := x.l.size + if x.r.isTrue = true then 0 else x.r.size
def sizeL (c : List Lt) : Nat := (c.map Lt.size).sum
theorem Lt.size_le {x : Lt} (h : x.sized) : x.size ≤ 4194304 := by
  unfold Lt.size Lt.sized at *
  split <;> omega
theorem sizeL_le : ∀ {c : List Lt}, (∀ x ∈ c, x.sized) → sizeL c ≤ c.length * 4194304
  | [], _ => by simp [sizeL]
  | x :: c, h => by
    have h1 := Lt.size_le (h x (by simp))
    have h2 := sizeL_le (c := c) fun y hy => h y (by simp [hy])
    simp only [sizeL, List.map_cons, List.sum_cons, List.length_cons] at h2 ⊢
    omega
theorem sizeL_step {c : List Lt} {k : Nat} (h : k < c.length) : sizeL (c.take (k + 1)) = sizeL (c.take k) + c[k].size := by
  unfold sizeL
  rw [List.take_succ_eq_append_getElem h, List.map_append, List.sum_append]
  simp

set_option maxHeartbeats 1000000 in
set_option maxRecDepth 100000 in
theorem litsize_any (x : Lt) (hs : x.sized) (w : World) (b o : Nat) (la ra : Option Addr) (lc rc : Nat) (h3 : w.cell? ⟨b, o + 1, none⟩ = some (.int .i64 x.l.f)) (h4 : w.cell? ⟨b, o + 2, none⟩ = some (.slice la x.l.ks.length lc)) (h5 : w.cell? ⟨b, o + 3, none⟩ = some (.int .i64 x.r.f)) (h6 : w.cell? ⟨b, o + 4, none⟩ = some (.slice ra x.r.ks.length rc))
    (h7 : IsTm w (.int .i64 x.l.f) (.slice la x.l.ks.length lc) x.l) (h8 : IsTm w (.int .i64 x.r.f) (.slice ra x.r.ks.length rc) x.r) :
    Calls Tryd.prog 118 #[.pointer (some ⟨b, o, none⟩)] w fun e w' => e = .returned (.int .i64 x.size) ∧ Ext w w' := by
  unfold Lt.sized at hs
  have HL := Lib.hid (size_any x.l w _ _ h7 hs.1)
  have HR := Lib.hid (fun w' (h : Ext w w') => size_any x.r w' _ _ (h8.ext h) hs.2)
  have HT := Lib.hid (fun w' (h : Ext w w') => clTrue_any x.r w' _ _ (h8.ext h))
  clear h7 h8
  obtain ⟨ls, hls⟩ : ∃ ls, ls = x.l.size := ⟨_, rfl⟩
  obtain ⟨rs, hrs⟩ : ∃ rs, rs = x.r.size := ⟨_, rfl⟩
  have hlsi : (ls : Int) ≤ 2097152 := by omega
  have hrsi : (rs : Int) ≤ 2097152 := by omega
  have hfin : ∀ t, x.r.isTrue = t → x.size = ls + if t = true then 0 else rs := by intro t ht; subst ht; rw [hls, hrs]; rfl
  rw [← hls] at HL
  rw [← hrs] at HR
  clear hls hrs hs
  obtain ⟨t, ht⟩ : ∃ t, t = x.r.isTrue := ⟨_, rfl⟩
  have hF := hfin t ht.symm
  rw [← ht] at HT
  obtain ⟨S, hS⟩ : ∃ S, S = x.size := ⟨_, rfl⟩
  rw [← hS] at hF ⊢
  have HF := Lib.hid hF
  clear hF hfin ht hS
  cases t
  · go_enter Tryd.func118, Tryd.ntmps118
    go_wp2_with ((go_at_call 39; with_reducible refine (HL.out).mono ?_); rintro e w1 ⟨rfl, hx1⟩; have r5 := hx1.cell h5; have r6 := hx1.cell h6)
    go_wp2_with ((go_at_call 68; with_reducible refine (HT.out _ hx1).mono ?_); rintro e w2 ⟨rfl, hx2⟩; have s5 := hx2.cell r5; have s6 := hx2.cell r6; have hx12 := hx1.trans hx2)
    go_wp2_with ((go_at_call 39; with_reducible refine (HR.out _ hx12).mono ?_); rintro e w3 ⟨rfl, hx3⟩)
    go_ret
    exact ⟨ret_int (by rw [HF.out]; simp), hx12.trans hx3⟩
  · go_enter Tryd.func118, Tryd.ntmps118
    go_wp2_with ((go_at_call 39; with_reducible refine (HL.out).mono ?_); rintro e w1 ⟨rfl, hx1⟩; have r5 := hx1.cell h5; have r6 := hx1.cell h6)
    go_wp2_with ((go_at_call 68; with_reducible refine (HT.out _ hx1).mono ?_); rintro e w2 ⟨rfl, hx2⟩)
    go_ret
    exact ⟨ret_int (by rw [HF.out]; simp), hx1.trans hx2⟩

set_option maxHeartbeats 1000000 in
set_option maxRecDepth 100000 in
theorem litssize_any (c : List Lt) (hcs : ∀ x ∈ c, x.sized) (hcl : c.length ≤ 1048576) (w : World) (ca : Option Addr) (cn : Nat) (hc : IsLits w ca c) :
    Calls Tryd.prog 106 #[.slice ca c.length cn] w fun e w' => e = .returned (.int .i64 (sizeL c)) ∧ Ext w w' := by
  have hcap := sizeL_le hcs
  go_enter Tryd.func106, Tryd.ntmps106
  go_wp2_with fail
  go_loopw [3, 4, 7] (fun n _ i wr => ∃ k : Nat, k ≤ c.length ∧ i = .int .i64 k ∧ n = .int .i64 (sizeL (c.take k)) ∧ Ext w wr) (fun _ _ i _ => c.length - (intOf i).toNat)
  case atStart => exact ⟨0, Nat.zero_le _, rfl, rfl, Below.refl _ _⟩
  case round =>
    obtain ⟨k, hkk, rfl, rfl, hext⟩ := hrel
    by_cases hlt : k < c.length
    · have hstep := sizeL_step hlt
      have hle := sizeL_le (c := c.take (k + 1)) (fun x hx => hcs x (List.mem_of_mem_take hx))
      simp only [List.length_take] at hle
      have hsz := hcs c[k] (List.getElem_mem hlt)
      obtain ⟨b, o, la, lc, ra, rc, rfl, h2, h3, h4, h5, h6, h7, h8⟩ := hc.ext hext k hlt
      have HS := Lib.hid (litsize_any c[k] hsz wr b (o + k * 5) la ra lc rc h3 h4 h5 h6 h7 h8)
      obtain ⟨S, hS⟩ : ∃ S, S = sizeL (c.take k) := ⟨_, rfl⟩
      obtain ⟨T, hT⟩ : ∃ T, T = c[k].size := ⟨_, rfl⟩
      rw [← hS, ← hT] at hstep
      rw [← hT] at HS
      rw [hstep] at hle
      have hSi : (S : Int) + T ≤ 4398046511104 := by omega
      have Hstep := Lib.hid hstep
      have hcap' := Lib.hid hcap
      rw [← hS]
      clear hS hT h2 h3 h4 h5 h6 h7 h8 hstep hle hcap
      go_wp2_with ((go_at_call 118; with_reducible refine (HS.out).mono ?_); rintro e w1 ⟨rfl, hx1⟩)
      go_roundw
      case rel => exact ⟨k + 1, by omega, by go_num, by rw [Hstep.out]; go_num, hext.trans hx1⟩
      case measure => simp [intOf]; omega
    · have hk : k = c.length := by omega
      go_wp2_with fail
      go_ret
      exact ⟨by subst hk; rw [List.take_length]; rfl, hext⟩

set_option maxHeartbeats 400000 in
theorem clSize_any (c : List Lt) (hcs : ∀ x ∈ c, x.sized) (hcl : c.length ≤ 1048576) (w : World) (ca : Option Addr) (cn : Nat) (hc : IsLits w ca c) :
    Calls Tryd.prog 74 #[.slice ca c.length cn] w fun e w' => e = .returned (.int .i64 (sizeL c)) ∧ Ext w w' := by
  have H := Lib.hid (litssize_any c hcs hcl w ca cn hc)
  go_enter Tryd.func74, Tryd.ntmps74
  go_wp2_with ((go_at_call 106; with_reducible refine (H.out).mono ?_); rintro e w1 ⟨rfl, hx1⟩)
  go_ret
  exact ⟨rfl, hx1⟩
end Go.Proofs.YtoidhdcbemmfhaaDoor
