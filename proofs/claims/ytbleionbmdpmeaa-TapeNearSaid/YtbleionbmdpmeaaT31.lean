/- What a step of a walk writes, and that it stays in order. -/
import Derived.Test.YtbleionbmdpmeaaT30
set_option linter.unusedVariables false
set_option linter.unusedSimpArgs false
namespace Go.Proofs.Ytbleionbmdpmeaa
open Go.Abs

theorem WInv.ext {m : Mach} {A B k : Int} {w : Wk} (h : WInv m A B k w) : Ext (bget w.l w.z) w.lo w.hi := ⟨h.ok.zero, h.ends⟩

/-- what a write comes to -/
structure Wrote (A B : Int) (w : Wk) (x : Int) (w' : Wk) : Prop where
  same : ∀ p, bget w'.l w'.z p = upd1 (bget w.l w.z) w.pos x p
  ext : Ext (bget w'.l w'.z) w'.lo w'.hi
  good : w'.lo ≤ w'.hi → Good A B w'.l.length w'.z ∧ 0 ≤ w'.lo + w'.z ∧ w'.hi + w'.z < w'.l.length
  len : w'.l.length ≤ 1073741824
  z0 : -4398046511104 ≤ w'.z
  z1 : w'.z ≤ 4398046511104
  lo0 : -4398046511104 ≤ w'.lo
  lo1 : w'.lo ≤ 4398046511104
  hi0 : -4398046511104 ≤ w'.hi
  hi1 : w'.hi ≤ 4398046511104
  span : w'.hi - w'.lo < 100000

theorem finW_wrote {A B : Int} {w : Wk} {x lo hi z : Int} {l : List Int} (hA : -2199023255552 ≤ A) (hB : B ≤ 2199023255552) (hAB : B - A ≤ 16777216) (hs : ∀ p, bget l z p = upd1 (bget w.l w.z) w.pos x p) (hw : ∀ p, bget l z p ≠ 0 → lo ≤ p ∧ p ≤ hi) (hlh : lo ≤ hi)
    (hg : Good A B l.length z) (h0 : 0 ≤ lo + z) (h1 : hi + z < l.length) (hsp : hi - lo < 100000) (b0 : -2199023255552 ≤ lo) (b1 : hi ≤ 2199023255552) :
    Wrote A B w x (finW w lo hi z l).2 ∧ ((finW w lo hi z l).1 = true ↔ Repr (upd1 (bget w.l w.z) w.pos x)) := by
  obtain ⟨e, e1, e2, e3, e4⟩ := window hw hlh
  have hg2 := hg
  unfold Good at hg2
  refine ⟨⟨hs, e, fun hle => ⟨hg, ?_, ?_⟩, ?_, ?_, ?_, ?_, ?_, ?_, ?_, ?_⟩, ?_⟩
  · show 0 ≤ loOf l z lo hi + z; omega
  · show hiOf l z lo hi + z < l.length; omega
  · show l.length ≤ 1073741824; omega
  · show -4398046511104 ≤ z; omega
  · show z ≤ 4398046511104; omega
  · show -4398046511104 ≤ loOf l z lo hi; omega
  · show loOf l z lo hi ≤ 4398046511104; omega
  · show -4398046511104 ≤ hiOf l z lo hi; omega
  · show hiOf l z lo hi ≤ 4398046511104; omega
  · show hiOf l z lo hi - loOf l z lo hi < 100000; omega
  · have e' := e.congr (g := upd1 (bget w.l w.z) w.pos x) (fun p => (hs p).symm)
    rw [repr_of e']
    simp only [finW, decide_eq_true_eq]
    omega

theorem write_spec {m : Mach} {A B k : Int} {w : Wk} (h : WInv m A B k w) (x : Int) :
    ((writeF w x).1 = true → Wrote A B w x (writeF w x).2) ∧ ((writeF w x).1 = true ↔ Repr (upd1 (bget w.l w.z) w.pos x)) ∧ (x = 0 ∧ (w.pos < w.lo ∨ w.hi < w.pos) → (writeF w x).2 = w) ∧
      ((w.lo ≤ w.hi ∧ (w.pos + 150000 + k < w.lo ∨ w.hi + 150000 + k < w.pos)) → (writeF w x).1 = true → (writeF w x).2 = w) := by
  have o := h.ok
  have hA := o.hA; have hB := o.hB; have hAB := o.hAB; have hk := o.k0; have p0 := o.p0; have p1 := o.p1
  unfold writeF
  split
  · rename_i hc
    have hz : bget w.l w.z w.pos = 0 := by
      refine Classical.byContradiction (fun q => ?_)
      have := o.zero _ q; omega
    have hsame : ∀ p, bget w.l w.z p = upd1 (bget w.l w.z) w.pos x p := fun p => by
      unfold upd1; split
      · rename_i e; rw [e, hz, hc.1]
      · rfl
    refine ⟨fun _ => ⟨hsame, h.ext, o.good, o.len, o.z0, o.z1, o.lo0, o.lo1, o.hi0, o.hi1, h.span⟩, ?_, fun _ => rfl, fun _ _ => rfl⟩
    have e := h.ext.congr (g := upd1 (bget w.l w.z) w.pos x) (fun p => (hsame p).symm)
    have := h.lor; have := h.span
    rw [repr_of e]
    simp only [true_iff]; omega
  · rename_i hc
    split
    · rename_i hc2
      have hnear : A + 16 ≤ w.pos ∧ w.pos ≤ B - 16 := by have := o.near; omega
      have hzero : ∀ p, bget w.l w.z p = 0 := h.ext.zero hc2
      have hsame : ∀ p, bget ((List.replicate 16 0).set 8 x) (8 - w.pos) p = upd1 (bget w.l w.z) w.pos x p := fun p => by
        have := bget_set (l := List.replicate 16 0) (z := 8 - w.pos) (pos := w.pos) (x := x) (by omega) (by simp; omega) p
        rw [show (w.pos + (8 - w.pos)).toNat = 8 from by omega] at this
        rw [this]; unfold upd1; split
        · rfl
        · rw [bget_zeros, hzero]
      obtain ⟨g1, g2⟩ := finW_wrote (w := w) (x := x) (lo := w.pos) (hi := w.pos) hA hB hAB hsame (fun p hp => by
        rw [hsame] at hp; unfold upd1 at hp
        split at hp
        · omega
        · exact (hp (hzero p)).elim) (Int.le_refl _) (by unfold Good; simp; omega) (by omega) (by simp; omega) (by omega) (by omega) (by omega)
      refine ⟨fun _ => g1, g2, fun q => (hc q).elim, fun q => by omega⟩
    · rename_i hc2
      have hx : x ≠ 0 ∨ (w.lo ≤ w.pos ∧ w.pos ≤ w.hi) := by
        by_cases e : x = 0
        · right; have : ¬ (w.pos < w.lo ∨ w.hi < w.pos) := fun q => hc ⟨e, q⟩
          omega
        · exact .inl e
      have hsupp : ∀ p, upd1 (bget w.l w.z) w.pos x p ≠ 0 → min w.lo w.pos ≤ p ∧ p ≤ max w.hi w.pos := fun p hp => by
        unfold upd1 at hp; split at hp
        · omega
        · have := o.zero p hp; omega
      have hend := h.ends (by omega)
      split
      · rename_i hc3
        refine ⟨fun q => absurd q (by simp), ?_, fun q => (hc q).elim, fun _ q => absurd q (by simp)⟩
        simp only [Bool.false_eq_true, false_iff]
        have hsp := h.span
        have hxo : x ≠ 0 ∧ (w.pos < w.lo ∨ w.hi < w.pos) := by
          rcases hx with hx | hx
          · exact ⟨hx, by omega⟩
          · omega
        have e : Ext (upd1 (bget w.l w.z) w.pos x) (min w.lo w.pos) (max w.hi w.pos) := ⟨hsupp, fun _ => by
          rcases hxo.2 with q | q
          · rw [show min w.lo w.pos = w.pos from by omega, show max w.hi w.pos = w.hi from by omega]
            exact ⟨by unfold upd1; rw [if_pos rfl]; exact hxo.1, by unfold upd1; rw [if_neg (by omega)]; exact hend.2⟩
          · rw [show min w.lo w.pos = w.lo from by omega, show max w.hi w.pos = w.pos from by omega]
            exact ⟨by unfold upd1; rw [if_neg (by omega)]; exact hend.1, by unfold upd1; rw [if_pos rfl]; exact hxo.1⟩⟩
        rw [repr_of e]; omega
      · rename_i hc3
        have hnear : A + 16 ≤ w.pos ∧ w.pos ≤ B - 16 := by have := o.near; omega
        obtain ⟨q1, q2, q3⟩ := o.good (by omega)
        have S := bandAt_spec (pos := w.pos) (by omega) (by omega) q1
        have s1 := S.good; have s2 := S.lo; have s3 := S.hi; have s4 := S.same; have s5 := S.left; have s6 := S.right
        have hsame : ∀ p, bget ((bandAt w.l w.z w.pos).1.set (w.pos + (bandAt w.l w.z w.pos).2).toNat x) (bandAt w.l w.z w.pos).2 p = upd1 (bget w.l w.z) w.pos x p := fun p => by
          rw [bget_set s2 s3]; unfold upd1; split
          · rfl
          · exact s4 p
        have hll : ((bandAt w.l w.z w.pos).1.set (w.pos + (bandAt w.l w.z w.pos).2).toNat x).length = (bandAt w.l w.z w.pos).1.length := List.length_set
        obtain ⟨g1, g2⟩ := finW_wrote (w := w) (x := x) (lo := min w.lo w.pos) (hi := max w.hi w.pos) hA hB hAB hsame (fun p hp => hsupp p (by rw [← hsame]; exact hp)) (by omega) (by rw [hll]; exact s1) (by omega) (by rw [hll]; omega) (by omega) (by omega) (by omega)
        refine ⟨fun _ => g1, g2, fun q => (hc q).elim, fun q => by omega⟩

theorem stepF_spec {m : Mach} {A B k : Int} {w : Wk} (hv : m.Valid) (h : WInv m A B (k + 1) w) (hk : 0 ≤ k) (hs : w.st ≠ -1) :
    (∀ w', stepF m w = some w' → WInv m A B k w' ∧ (∀ p, bget w'.l w'.z p = upd1 (bget w.l w.z) w.pos (m.rule w.st (bget w.l w.z w.pos)).wr p) ∧ w'.st = (m.rule w.st (bget w.l w.z w.pos)).nx ∧ w'.pos = w.pos + (m.rule w.st (bget w.l w.z w.pos)).mv) ∧
    ((stepF m w).isSome = true ↔ (-1099511627776 ≤ w.pos + (m.rule w.st (bget w.l w.z w.pos)).mv ∧ w.pos + (m.rule w.st (bget w.l w.z w.pos)).mv ≤ 1099511627776) ∧ Repr (upd1 (bget w.l w.z) w.pos (m.rule w.st (bget w.l w.z w.pos)).wr)) := by
  have hs0 := h.st0; have hs1 := h.st1; have hc := h.cells w.pos
  have hr := (hv.rows w.st (by omega) hs1).2 _ hc.1 hc.2
  have o := h.ok
  unfold stepF
  rw [symF_eq o]
  generalize hR : m.rule w.st (bget w.l w.z w.pos) = R at *
  unfold ruleOk at hr
  obtain ⟨W1, W2, W3, W4⟩ := write_spec h R.wr
  simp only
  by_cases hp : w.pos + R.mv < -1099511627776 ∨ 1099511627776 < w.pos + R.mv
  · rw [if_pos hp]
    exact ⟨fun w' h => (by cases h), by simp; omega⟩
  · rw [if_neg hp]
    by_cases hw : (writeF w R.wr).1 = true
    · rw [if_pos hw]
      refine ⟨fun w' h' => ?_, by simp only [Option.isSome_some, true_iff]; exact ⟨by omega, W2.1 hw⟩⟩
      cases h'
      have G := W1 hw
      have near := o.near
      refine ⟨⟨⟨o.hA, o.hB, o.hAB, hk, by simp only; omega, by simp only; omega, ?_, G.good, G.len, G.z0, G.z1, G.lo0, G.lo1, G.hi0, G.hi1, G.ext.out⟩, fun p => ?_, by simp only; omega, by simp only; omega, G.ext.ends, G.span, fun hle => ?_⟩, G.same, rfl, rfl⟩
      · rcases near with near | near
        · left; simp only; omega
        · right
          rw [W4 near hw]
          simp only; omega
      · show 0 ≤ bget (writeF w R.wr).2.l (writeF w R.wr).2.z p ∧ bget (writeF w R.wr).2.l (writeF w R.wr).2.z p < m.ny
        rw [G.same]; unfold upd1; split
        · omega
        · exact h.cells p
      · have := (repr_of (G.ext.congr (g := upd1 (bget w.l w.z) w.pos R.wr) (fun p => (G.same p).symm))).1 (W2.1 hw)
        simp only at hle ⊢
        omega
    · rw [if_neg hw]
      exact ⟨fun w' h => (by cases h), by simp only [Option.isSome_none, Bool.false_eq_true, false_iff]; exact fun q => hw (W2.2 q.2)⟩
end Go.Proofs.Ytbleionbmdpmeaa
