/- The plain law of the order of terms: it is an order, and what is alike is one term. No condition. -/
import Derived.Test.YtoidhdcbemmfhaaDoorComp
namespace Go.Proofs.YtoidhdcbemmfhaaDoor

theorem top_range (f g : Int) : topCmp f g = -1 ∨ topCmp f g = 0 ∨ topCmp f g = 1 := by
  unfold topCmp Lib.compareInt; split <;> split <;> (try split) <;> omega
theorem top_anti (f g : Int) : topCmp g f = - topCmp f g := by
  unfold topCmp Lib.compareInt
  by_cases h1 : f < 0 <;> by_cases h2 : g < 0 <;> simp only [h1, h2, and_self, and_true, and_false, if_true, if_false] <;> (repeat' split) <;> omega
theorem top_zero {f g : Int} (h : topCmp f g = 0) : f = g := by
  unfold topCmp Lib.compareInt at h
  split at h <;> split at h <;> (try split at h) <;> omega
theorem top_self (f : Int) : topCmp f f = 0 := by
  unfold topCmp Lib.compareInt
  split <;> split <;> (try split) <;> omega
theorem top_neg (f g : Int) : topCmp f g = -1 ↔ (f < 0 ∧ g < 0 ∧ g < f) ∨ (¬ (f < 0 ∧ g < 0) ∧ f < g) := by
  unfold topCmp Lib.compareInt
  split <;> split <;> (try split) <;> constructor <;> intro h <;> omega
theorem top_trans {f g h : Int} (h1 : topCmp f g = -1) (h2 : topCmp g h = -1) : topCmp f h = -1 := by
  rw [top_neg] at *
  omega

theorem cmp_range (t : Tm) : ∀ u, Tm.cmp t u = -1 ∨ Tm.cmp t u = 0 ∨ Tm.cmp t u = 1 := by
  induction t using Tm.ind with
  | h f ks ih =>
    intro u
    cases u with
    | mk g ls =>
      simp only [Tm.cmp]
      split
      · induction ks generalizing ls with
        | nil => cases ls <;> simp [Tm.cmps]
        | cons a ks ihk =>
          cases ls with
          | nil => simp [Tm.cmps]
          | cons b ls =>
            simp only [Tm.cmps]
            split
            · exact ihk (fun a h => ih a (by simp [h])) ls
            · exact ih a (by simp) b
      · exact top_range f g
theorem cmp_anti (t : Tm) : ∀ u, Tm.cmp u t = - Tm.cmp t u := by
  induction t using Tm.ind with
  | h f ks ih =>
    intro u
    cases u with
    | mk g ls =>
      have hs : Tm.cmps ls ks = - Tm.cmps ks ls := by
        induction ks generalizing ls with
        | nil => cases ls <;> simp [Tm.cmps]
        | cons a ks ihk =>
          cases ls with
          | nil => simp [Tm.cmps]
          | cons b ls =>
            simp only [Tm.cmps]
            have e := ih a (by simp) b
            have e2 := ihk (fun a h => ih a (by simp [h])) ls
            rw [e, e2]
            by_cases h0 : a.cmp b = 0
            · simp [h0]
            · rw [if_neg (by omega), if_neg h0]
      simp only [Tm.cmp]
      have e := top_anti f g
      rw [e, hs]
      by_cases h0 : topCmp f g = 0
      · simp [h0]
      · rw [if_neg (by omega), if_neg h0]
theorem cmp_zero (t : Tm) : ∀ u, Tm.cmp t u = 0 → t = u := by
  induction t using Tm.ind with
  | h f ks ih =>
    intro u
    cases u with
    | mk g ls =>
      simp only [Tm.cmp]
      intro h
      have h0 : topCmp f g = 0 := by
        by_cases h0 : topCmp f g = 0
        · exact h0
        · rw [if_neg h0] at h; exact h
      rw [if_pos h0] at h
      have hfg := top_zero h0
      subst hfg
      congr 1
      induction ks generalizing ls with
      | nil => cases ls with
        | nil => rfl
        | cons b ls => simp [Tm.cmps] at h
      | cons a ks ihk =>
        cases ls with
        | nil => simp [Tm.cmps] at h
        | cons b ls =>
          simp only [Tm.cmps] at h
          have h1 : a.cmp b = 0 := by
            by_cases h1 : a.cmp b = 0
            · exact h1
            · rw [if_neg h1] at h; exact h
          rw [if_pos h1] at h
          rw [ih a (by simp) b h1, ihk (fun a h => ih a (by simp [h])) ls h]
theorem cmp_self (t : Tm) : Tm.cmp t t = 0 := by
  have := cmp_anti t t
  omega
theorem cmp_trans (t : Tm) : ∀ u v, Tm.cmp t u = -1 → Tm.cmp u v = -1 → Tm.cmp t v = -1 := by
  induction t using Tm.ind with
  | h f ks ih =>
    intro u v
    cases u with
    | mk g ls =>
      cases v with
      | mk k ms =>
        simp only [Tm.cmp]
        intro h1 h2
        by_cases e1 : topCmp f g = 0
        · have := top_zero e1
          subst this
          rw [if_pos e1] at h1
          by_cases e2 : topCmp f k = 0
          · rw [if_pos e2] at h2 ⊢
            induction ks generalizing ls ms with
            | nil => 
              cases ls with
              | nil => simp [Tm.cmps] at h1
              | cons b ls => cases ms with
                | nil => simp [Tm.cmps] at h2
                | cons c ms => simp [Tm.cmps]
            | cons a ks ihk =>
              cases ls with
              | nil => simp [Tm.cmps] at h1
              | cons b ls => cases ms with
                | nil => simp [Tm.cmps] at h2
                | cons c ms =>
                  simp only [Tm.cmps] at h1 h2 ⊢
                  by_cases d1 : a.cmp b = 0
                  · have := cmp_zero a b d1
                    subst this
                    rw [if_pos d1] at h1
                    by_cases d2 : a.cmp c = 0
                    · rw [if_pos d2] at h2 ⊢
                      exact ihk (fun a h => ih a (by simp [h])) ls ms h1 h2
                    · rw [if_neg d2] at h2 ⊢; exact h2
                  · rw [if_neg d1] at h1
                    by_cases d2 : b.cmp c = 0
                    · have := cmp_zero b c d2
                      subst this
                      rw [if_neg d1]; exact h1
                    · rw [if_neg d2] at h2
                      have := ih a (by simp) b c h1 h2
                      rw [if_neg (by omega)]; exact this
          · rw [if_neg e2] at h2 ⊢; exact h2
        · rw [if_neg e1] at h1
          by_cases e2 : topCmp g k = 0
          · have := top_zero e2
            subst this
            rw [if_neg e1]; exact h1
          · rw [if_neg e2] at h2
            have := top_trans h1 h2
            rw [if_neg (by omega)]; exact this
theorem same_self (t : Tm) : t.same t = true := by
  induction t using Tm.ind with
  | h f ks ih =>
    simp only [Tm.same, decide_true, Bool.true_and]
    induction ks with
    | nil => simp [Tm.sames]
    | cons a ks ihk => simp only [Tm.sames]; rw [ih a (by simp), ihk (fun a h => ih a (by simp [h]))]; rfl
theorem same_eq (t : Tm) : ∀ u, t.same u = true → t = u := by
  induction t using Tm.ind with
  | h f ks ih =>
    intro u
    cases u with
    | mk g ls =>
      simp only [Tm.same, Bool.and_eq_true, decide_eq_true_eq]
      rintro ⟨rfl, hl, h⟩
      congr 1
      induction ks generalizing ls with
      | nil => cases ls with
        | nil => rfl
        | cons b ls => simp at hl
      | cons a ks ihk =>
        cases ls with
        | nil => simp at hl
        | cons b ls =>
          simp only [Tm.sames, Bool.and_eq_true] at h
          rw [ih a (by simp) b h.1, ihk (fun a h => ih a (by simp [h])) ls (by simpa using hl) h.2]
theorem same_cmp (t u : Tm) : t.same u = decide (t.cmp u = 0) := by
  cases h : t.same u with
  | true =>
    have := same_eq t u h
    subst this
    simp [cmp_self]
  | false =>
    symm
    rw [decide_eq_false_iff_not]
    intro h0
    have := cmp_zero t u h0
    subst this
    rw [same_self] at h; cases h
/-- what of three terms in a row is so -/
theorem cmp_three (a b c : Tm) : (a.cmp b ≤ 0 → b.cmp c ≤ 0 → a.cmp c ≤ 0) ∧ (a.cmp b < 0 → b.cmp c ≤ 0 → a.cmp c < 0) := by
  have r1 := cmp_range a b
  have r2 := cmp_range b c
  by_cases h1 : a.cmp b = 0
  · have := cmp_zero a b h1
    subst this
    exact ⟨fun _ h => h, fun h => by omega⟩
  · by_cases h2 : b.cmp c = 0
    · have := cmp_zero b c h2
      subst this
      exact ⟨fun h _ => h, fun h _ => h⟩
    · have := cmp_trans a b c
      exact ⟨fun h3 h4 => by rw [this (by omega) (by omega)]; omega, fun h3 h4 => by rw [this (by omega) (by omega)]; omega⟩
end Go.Proofs.YtoidhdcbemmfhaaDoor
