/- Runs far from the limits are runs on an endless tape, and look at what is near. -/
import Derived.Test.YtbleionbmdpmeaaT63
set_option linter.unusedVariables false
set_option linter.unusedSimpArgs false
namespace Go.Proofs.Ytbleionbmdpmeaa
open Go.Abs

theorem ext_in {f : Int → Int} : ∀ (n : Nat) (A B : Int), B - A + 1 ≤ n → (∀ p, f p ≠ 0 → A ≤ p ∧ p ≤ B) → ∃ lo hi, Ext f lo hi ∧ (lo ≤ hi → A ≤ lo ∧ hi ≤ B)
  | 0, A, B, h, hs => ⟨A, B, ⟨hs, fun q => by omega⟩, fun q => by omega⟩
  | n + 1, A, B, h, hs => by
    by_cases hAB : B < A
    · exact ⟨A, B, ⟨hs, fun q => by omega⟩, fun q => by omega⟩
    by_cases hA : f A = 0
    · obtain ⟨lo, hi, e, b⟩ := ext_in (f := f) n (A + 1) B (by omega) (fun p hp => by
        have := hs p hp
        by_cases q : p = A
        · rw [q] at hp; exact absurd hA hp
        · omega)
      exact ⟨lo, hi, e, fun q => by have := b q; omega⟩
    by_cases hB : f B = 0
    · obtain ⟨lo, hi, e, b⟩ := ext_in (f := f) n A (B - 1) (by omega) (fun p hp => by
        have := hs p hp
        by_cases q : p = B
        · rw [q] at hp; exact absurd hB hp
        · omega)
      exact ⟨lo, hi, e, fun q => by have := b q; omega⟩
    exact ⟨A, B, ⟨hs, fun _ => ⟨hA, hB⟩⟩, fun q => ⟨Int.le_refl _, Int.le_refl _⟩⟩
theorem repr_in {f : Int → Int} {A B : Int} (hs : ∀ p, f p ≠ 0 → A ≤ p ∧ p ≤ B) (h1 : B - A < 100000) (h2 : -1099511627776 ≤ A) (h3 : B ≤ 1099511627776) : Repr f := by
  obtain ⟨lo, hi, e, b⟩ := ext_in (f := f) (B - A + 1).toNat A B (by omega) hs
  by_cases q : lo ≤ hi
  · have := b q; exact ⟨lo, hi, e, by omega, fun _ => by omega⟩
  · exact ⟨lo, hi, e, by omega, fun q' => absurd q' q⟩

/-- a run on an endless tape -/
def runP (m : Mach) : Nat → Int → Int → (Int → Int) → Int × Int × (Int → Int) × Nat
  | 0, s, p, f => (s, p, f, 0)
  | n + 1, s, p, f => if s = -1 then (s, p, f, 0) else
    ((runP m n (m.rule s (f p)).nx (p + (m.rule s (f p)).mv) (upd1 f p (m.rule s (f p)).wr)).1, (runP m n (m.rule s (f p)).nx (p + (m.rule s (f p)).mv) (upd1 f p (m.rule s (f p)).wr)).2.1,
     (runP m n (m.rule s (f p)).nx (p + (m.rule s (f p)).mv) (upd1 f p (m.rule s (f p)).wr)).2.2.1, (runP m n (m.rule s (f p)).nx (p + (m.rule s (f p)).mv) (upd1 f p (m.rule s (f p)).wr)).2.2.2 + 1)

theorem far_run {m : Mach} (hv : m.Valid) : ∀ (N : Nat) (c : Conf) (A B : Int), c.Within m.ns m.ny → (∀ p, c.read p ≠ 0 → A ≤ p ∧ p ≤ B) → B - A < 100000 → -1099511627776 ≤ A → B ≤ 1099511627776 → A ≤ c.pos - N → c.pos + N ≤ B →
    ∃ c' k, rrunF m N c = some (c', k) ∧ c'.Within m.ns m.ny ∧ c'.st = (runP m N c.st c.pos c.read).1 ∧ c'.pos = (runP m N c.st c.pos c.read).2.1 ∧ (∀ p, c'.read p = (runP m N c.st c.pos c.read).2.2.1 p) ∧ k = (runP m N c.st c.pos c.read).2.2.2
  | 0, c, A, B, hw, _, _, _, _, _, _ => ⟨c, 0, rfl, hw, rfl, rfl, fun _ => rfl, rfl⟩
  | N + 1, c, A, B, hw, hs, h1, h2, h3, h4, h5 => by
    rw [rrunF_succ]
    unfold runP
    by_cases hst : c.st = -1
    · rw [if_pos hst, if_pos hst]; exact ⟨c, 0, rfl, hw, rfl, rfl, fun _ => rfl, rfl⟩
    · rw [if_neg hst, if_neg hst]
      have hst0 : 0 ≤ c.st := by have := hw.st0; omega
      obtain ⟨S1, S2⟩ := rstepF_spec hv hw hst0
      have hrd := read_range hv hw c.pos
      have hr := (hv.rows c.st hst0 hw.st1).2 _ hrd.1 hrd.2
      have hsn := rstepF_snd m c
      unfold ruleOk at hr
      generalize hR : m.rule c.st (c.read c.pos) = R at *
      obtain ⟨r1, r2, r3, r4, r5⟩ := hr
      have hsup : ∀ p, upd1 c.read c.pos R.wr p ≠ 0 → A ≤ p ∧ p ≤ B := fun p hp => by
        unfold upd1 at hp
        by_cases q : p = c.pos
        · omega
        · rw [if_neg q] at hp; exact hs p hp
      have hb : (rstepF m c).2 = true := S2.mpr ⟨by omega, repr_in hsup h1 h2 h3⟩
      obtain ⟨s1, s2, s3⟩ := S1 hb
      have hw1 := (fits_within (hsn hb)).2
      generalize rstepF m c = P at *
      obtain ⟨c1, b⟩ := P
      simp only at hb s1 s2 s3 hw1
      subst hb
      simp only
      have hf : c1.read = upd1 c.read c.pos R.wr := funext s3
      obtain ⟨c', k, e, w, t1, t2, t3, t4⟩ := far_run hv N c1 A B hw1 (fun p hp => hsup p (by rw [← s3]; exact hp)) h1 h2 h3 (by omega) (by omega)
      rw [s1, s2, hf] at t1 t2 t3 t4
      rw [e]
      exact ⟨c', k + 1, rfl, w, t1, t2, t3, by rw [t4]⟩

/-- what is near decides, and what is not near stays -/
theorem near_run {m : Mach} (hv : m.Valid) : ∀ (N : Nat) (s p : Int) (f g : Int → Int), -1 ≤ s → s < m.ns → (∀ q, 0 ≤ f q ∧ f q < m.ny) → (∀ q, 0 ≤ g q ∧ g q < m.ny) → (∀ q, p - N ≤ q → q ≤ p + N → f q = g q) →
    (runP m N s p f).1 = (runP m N s p g).1 ∧ (runP m N s p f).2.1 = (runP m N s p g).2.1 ∧ (runP m N s p f).2.2.2 = (runP m N s p g).2.2.2 ∧
    p - (runP m N s p f).2.2.2 ≤ (runP m N s p f).2.1 ∧ (runP m N s p f).2.1 ≤ p + (runP m N s p f).2.2.2 ∧ (∀ q, (q < p - N ∨ p + N < q) → (runP m N s p f).2.2.1 q = f q)
  | 0, s, p, f, g, _, _, _, _, _ => ⟨rfl, rfl, rfl, by simp [runP], by simp [runP], fun _ _ => rfl⟩
  | N + 1, s, p, f, g, s0, s1, hf, hg, he => by
    unfold runP
    by_cases hst : s = -1
    · rw [if_pos hst, if_pos hst]; exact ⟨rfl, rfl, rfl, by simp, by simp, fun _ _ => rfl⟩
    · rw [if_neg hst, if_neg hst]
      have hfp := hf p
      have hr := (hv.rows s (by omega) s1).2 _ hfp.1 hfp.2
      rw [← he p (by omega) (by omega)]
      generalize m.rule s (f p) = R at *
      unfold ruleOk at hr
      obtain ⟨r1, r2, r3, r4, r5⟩ := hr
      have up : ∀ h : Int → Int, (∀ q, 0 ≤ h q ∧ h q < m.ny) → ∀ q, 0 ≤ upd1 h p R.wr q ∧ upd1 h p R.wr q < m.ny := fun h hh q => by
        unfold upd1; split
        · exact ⟨r1, r2⟩
        · exact hh q
      obtain ⟨t1, t2, t3, t4, t5, t6⟩ := near_run hv N R.nx (p + R.mv) (upd1 f p R.wr) (upd1 g p R.wr) r4 r5 (up f hf) (up g hg) (fun q q1 q2 => by
        unfold upd1; split
        · rfl
        · exact he q (by omega) (by omega))
      simp only
      refine ⟨t1, t2, by rw [t3], by omega, by omega, fun q hq => ?_⟩
      rw [t6 q (by omega)]
      unfold upd1; rw [if_neg (by omega)]

theorem far_bounds {c : Conf} (h : c.Far) (N : Nat) (hN : N ≤ 1000) {ns ny : Int} (hw : c.Within ns ny) :
    ∃ A B, (∀ p, c.read p ≠ 0 → A ≤ p ∧ p ≤ B) ∧ B - A < 100000 ∧ -1099511627776 ≤ A ∧ B ≤ 1099511627776 ∧ A ≤ c.pos - N ∧ c.pos + N ≤ B := by
  have h1 := h.p0; have h2 := h.p1; have h3 := h.f0; have h4 := h.f1; have h5 := h.len; have h6 := h.gap
  unfold gapF at h6
  have hs := fun p hp => hw.trim.ext.out p (show c.read p ≠ 0 from hp)
  by_cases hz : (c.cs.l.length : Int) = 0
  · exact ⟨c.pos - N, c.pos + N, fun p hp => by have := hs p hp; omega, by omega, by omega, by omega, by omega, by omega⟩
  · rw [if_neg hz] at h6
    exact ⟨min c.fr (c.pos - N), max (c.fr + c.cs.l.length - 1) (c.pos + N), fun p hp => by have := hs p hp; omega, by omega, by omega, by omega, by omega, by omega⟩

/-- a run from far within the limits -/
theorem far_runX {m : Mach} {c : Conf} (hm : m.ok) (hc : c.ok) (hf : fits m c = true) (hfar : c.Far) {n : Int} (h0 : 0 ≤ n) (h1 : n ≤ 1000) :
    (runX m c n).2 = (((runP m n.toNat c.st c.pos c.read).2.2.2 : Int), 0) ∧ (runX m c n).1.Within m.ns m.ny ∧ (runX m c n).1.st = (runP m n.toNat c.st c.pos c.read).1 ∧ (runX m c n).1.pos = (runP m n.toNat c.st c.pos c.read).2.1 ∧
    (∀ p, (runX m c n).1.read p = (runP m n.toNat c.st c.pos c.read).2.2.1 p) := by
  obtain ⟨hv, hw⟩ := fits_within hf
  obtain ⟨A, B, b1, b2, b3, b4, b5, b6⟩ := far_bounds hfar n.toNat (by omega) hw
  obtain ⟨c', k, e, w, t1, t2, t3, t4⟩ := far_run hv n.toNat c A B hw b1 b2 b3 b4 b5 b6
  have S := runX_spec hm hc hf h0 (by omega : n ≤ 1000000)
  rw [e] at S
  simp only at S
  obtain ⟨s0, _, s1, s2, s3, s4⟩ := S
  refine ⟨by rw [s0, t4], fits_fields s1 s2 s3 s4 w, by rw [s1, t1], by rw [s2, t2], fun p => ?_⟩
  rw [← t3]
  unfold Conf.read Conf.at Lst.at
  rw [s3, s4]

structure Near (c d a b : Conf) (k i j : Int) : Prop where
  cnt : i = j
  st : a.st = b.st
  pos : a.pos = b.pos
  lo : c.pos - i ≤ a.pos
  hi : a.pos ≤ c.pos + i
  oa : Others a c k
  ob : Others b d k
theorem near_law {m : Mach} {c d : Conf} (hm : m.ok) (hc : c.ok) (hd : d.ok) (fc : fits m c = true) (fd : fits m d = true) (xc : c.Far) (xd : d.Far) (hst : d.st = c.st) (hpos : d.pos = c.pos) {k : Int} (h0 : 0 ≤ k) (h1 : k ≤ 1000)
    (he : ∀ i : Int, -k ≤ i → i ≤ k → c.read (c.pos + i) = d.read (c.pos + i)) :
    (runX m c k).2.2 = 0 ∧ (runX m d k).2.2 = 0 ∧ Near c d (runX m c k).1 (runX m d k).1 k (runX m c k).2.1 (runX m d k).2.1 := by
  obtain ⟨hv, hw⟩ := fits_within fc
  have hwd := (fits_within fd).2
  obtain ⟨a0, _, a1, a2, a3⟩ := far_runX hm hc fc xc h0 h1
  obtain ⟨b0, _, b1, b2, b3⟩ := far_runX hm hd fd xd h0 h1
  have e1 : ∀ q, c.pos - k.toNat ≤ q → q ≤ c.pos + k.toNat → c.read q = d.read q := fun q q1 q2 => by
    have := he (q - c.pos) (by omega) (by omega)
    rw [show c.pos + (q - c.pos) = q from by omega] at this; exact this
  obtain ⟨t1, t2, t3, t4, t5, t6⟩ := near_run hv k.toNat c.st c.pos c.read d.read hw.st0 hw.st1 (read_range hv hw) (read_range hv hwd) e1
  obtain ⟨_, _, _, _, _, u6⟩ := near_run hv k.toNat c.st c.pos d.read c.read hw.st0 hw.st1 (read_range hv hwd) (read_range hv hw) (fun q q1 q2 => (e1 q q1 q2).symm)
  rw [hst, hpos] at b0 b1 b2 b3
  rw [a0, b0]
  refine ⟨rfl, rfl, ⟨by simp only; rw [t3], by rw [a1, b1, t1], by rw [a2, b2, t2], by simp only; omega, by simp only; omega, fun i i0 i1 hi => ?_, fun i i0 i1 hi => ?_⟩⟩
  · rw [a3]; exact t6 _ (by omega)
  · rw [b3]; exact u6 _ (by omega)
end Go.Proofs.Ytbleionbmdpmeaa
