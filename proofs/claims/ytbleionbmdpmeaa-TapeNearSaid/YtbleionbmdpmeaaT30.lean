/- Tapes as functions: what both texts write, and how far it reaches. -/
import Derived.Test.YtbleionbmdpmeaaT20
set_option linter.unusedVariables false
set_option linter.unusedSimpArgs false
namespace Go.Proofs.Ytbleionbmdpmeaa
open Go.Abs

/-- From lo to hi lies what is not 0; at both ends it isn't. -/
structure Ext (f : Int → Int) (lo hi : Int) : Prop where
  out : ∀ p, f p ≠ 0 → lo ≤ p ∧ p ≤ hi
  ends : lo ≤ hi → f lo ≠ 0 ∧ f hi ≠ 0
theorem Ext.uniq {f : Int → Int} {lo hi lo' hi' : Int} (h : Ext f lo hi) (h' : Ext f lo' hi') (hl : lo ≤ hi) : lo' = lo ∧ hi' = hi := by
  obtain ⟨e1, e2⟩ := h.ends hl
  have a := h'.out _ e1; have b := h'.out _ e2
  obtain ⟨e3, e4⟩ := h'.ends (by omega)
  have c := h.out _ e3; have d := h.out _ e4
  omega
theorem Ext.zero {f : Int → Int} {lo hi : Int} (h : Ext f lo hi) (hl : hi < lo) (p : Int) : f p = 0 := by
  refine Classical.byContradiction (fun q => ?_)
  have := h.out p q; omega
theorem Ext.none {f : Int → Int} {lo hi lo' hi' : Int} (h : Ext f lo hi) (h' : Ext f lo' hi') (hl : hi < lo) : hi' < lo' := by
  refine Classical.byContradiction (fun q => ?_)
  exact (h'.ends (by omega)).1 (h.zero hl _)
theorem Ext.congr {f g : Int → Int} {lo hi : Int} (h : Ext f lo hi) (e : ∀ p, g p = f p) : Ext g lo hi := by
  have : g = f := funext e
  rw [this]; exact h

/-- A tape within the limits. -/
def Repr (f : Int → Int) : Prop := ∃ lo hi, Ext f lo hi ∧ hi - lo < 100000 ∧ (lo ≤ hi → -1099511627776 ≤ lo ∧ lo ≤ 1099511627776)
theorem repr_of {f : Int → Int} {lo hi : Int} (h : Ext f lo hi) : Repr f ↔ (hi < lo ∨ (hi - lo < 100000 ∧ -1099511627776 ≤ lo ∧ lo ≤ 1099511627776)) := by
  constructor
  · rintro ⟨lo', hi', h', a, b⟩
    rcases Int.lt_or_le hi lo with g | g
    · exact .inl g
    · obtain ⟨rfl, rfl⟩ := h.uniq h' g
      exact .inr ⟨a, b g⟩
  · rintro (g | g)
    · exact ⟨lo, hi, h, by omega, fun q => by omega⟩
    · exact ⟨lo, hi, h, g.1, fun _ => g.2⟩

/-- a cell written -/
def upd1 (f : Int → Int) (pos x p : Int) : Int := if p = pos then x else f p

/-! ### A band's window -/

theorem upTo_spec (l : List Int) (z hi : Int) : ∀ (f : Nat) (lo : Int), hi - lo + 1 ≤ f → (∀ p, lo ≤ p → p < upTo l z hi f lo → bget l z p = 0) ∧ (upTo l z hi f lo ≤ hi → bget l z (upTo l z hi f lo) ≠ 0)
  | 0, lo, h => ⟨fun p h1 h2 => by simp only [upTo] at h2; omega, fun h1 => by simp only [upTo] at h1; omega⟩
  | f + 1, lo, h => by
    unfold upTo; split
    · rename_i hc
      obtain ⟨h1, h2⟩ := upTo_spec l z hi f (lo + 1) (by omega)
      refine ⟨fun p g1 g2 => ?_, h2⟩
      by_cases e : p = lo
      · rw [e]; exact hc.2
      · exact h1 p (by omega) g2
    · rename_i hc
      exact ⟨fun p g1 g2 => by omega, fun g => fun q => hc ⟨g, q⟩⟩
theorem dnTo_spec (l : List Int) (z lo : Int) : ∀ (f : Nat) (hi : Int), hi - lo + 1 ≤ f → (∀ p, dnTo l z lo f hi < p → p ≤ hi → bget l z p = 0) ∧ (lo ≤ dnTo l z lo f hi → bget l z (dnTo l z lo f hi) ≠ 0)
  | 0, hi, h => ⟨fun p h1 h2 => by simp only [dnTo] at h1; omega, fun h1 => by simp only [dnTo] at h1; omega⟩
  | f + 1, hi, h => by
    unfold dnTo; split
    · rename_i hc
      obtain ⟨h1, h2⟩ := dnTo_spec l z lo f (hi - 1) (by omega)
      refine ⟨fun p g1 g2 => ?_, h2⟩
      by_cases e : p = hi
      · rw [e]; exact hc.2
      · exact h1 p g1 (by omega)
    · rename_i hc
      exact ⟨fun p g1 g2 => by omega, fun g => fun q => hc ⟨g, q⟩⟩

theorem window {l : List Int} {z lo hi : Int} (h : ∀ p, bget l z p ≠ 0 → lo ≤ p ∧ p ≤ hi) (hlh : lo ≤ hi) : Ext (bget l z) (loOf l z lo hi) (hiOf l z lo hi) ∧ lo ≤ loOf l z lo hi ∧ loOf l z lo hi ≤ hi + 1 ∧ hiOf l z lo hi ≤ hi ∧ lo ≤ hiOf l z lo hi + 1 := by
  have u1 := upTo_ge l z hi (hi - lo + 1).toNat lo
  have u2 := upTo_le l z hi (hi - lo + 1).toNat lo (by omega)
  obtain ⟨u3, u4⟩ := upTo_spec l z hi (hi - lo + 1).toNat lo (by omega)
  have d1 := dnTo_le l z (loOf l z lo hi) (hi - loOf l z lo hi + 1).toNat hi
  obtain ⟨d3, d4⟩ := dnTo_spec l z (loOf l z lo hi) (hi - loOf l z lo hi + 1).toNat hi (by omega)
  have d5 : ∀ f h0, loOf l z lo hi ≤ h0 + 1 → loOf l z lo hi ≤ dnTo l z (loOf l z lo hi) f h0 + 1 := by
    intro f
    induction f with
    | zero => intro h0 h; exact h
    | succ f ih => intro h0 h; unfold dnTo; split
                   · exact ih _ (by omega)
                   · exact h
  have d6 := d5 (hi - loOf l z lo hi + 1).toNat hi u2
  change lo ≤ loOf l z lo hi at u1
  change loOf l z lo hi ≤ hi + 1 at u2
  change hiOf l z lo hi ≤ hi at d1
  change loOf l z lo hi ≤ hiOf l z lo hi + 1 at d6
  refine ⟨⟨fun p hp => ?_, fun hle => ⟨u4 (by show loOf l z lo hi ≤ hi; omega), d4 hle⟩⟩, u1, u2, d1, by omega⟩
  have := h p hp
  constructor
  · refine Classical.byContradiction (fun q => hp (u3 p this.1 ?_))
    show p < loOf l z lo hi; omega
  · refine Classical.byContradiction (fun q => hp (d3 p ?_ this.2))
    show hiOf l z lo hi < p; omega

theorem bget_set {l : List Int} {z pos x : Int} (h0 : 0 ≤ pos + z) (h1 : pos + z < l.length) (p : Int) : bget (l.set (pos + z).toNat x) z p = upd1 (bget l z) pos x p := by
  unfold upd1 bget
  rw [List.length_set]
  by_cases e : p = pos
  · subst e; rw [if_pos ⟨h0, h1⟩, if_pos rfl, List.getD_eq_getElem?_getD, List.getElem?_set_self (by omega)]; rfl
  · rw [if_neg e]
    split
    · rw [List.getD_eq_getElem?_getD, List.getD_eq_getElem?_getD, List.getElem?_set_ne (by omega)]
    · rfl
theorem bget_zeros (n : Nat) (z p : Int) : bget (List.replicate n 0) z p = 0 := by
  unfold bget; split
  · rw [List.getD_eq_getElem?_getD, List.getElem?_replicate]; split <;> rfl
  · rfl
theorem bget_out {l : List Int} {z p : Int} (h : bget l z p ≠ 0) : 0 ≤ p + z ∧ p + z < l.length := by
  unfold bget at h
  split at h
  · assumption
  · exact (h rfl).elim
end Go.Proofs.Ytbleionbmdpmeaa
