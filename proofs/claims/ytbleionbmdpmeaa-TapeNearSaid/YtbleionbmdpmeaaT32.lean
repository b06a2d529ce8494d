/- Configurations that are trimmed; what a step of the specification writes. -/
import Derived.Test.YtbleionbmdpmeaaT31
set_option linter.unusedVariables false
set_option linter.unusedSimpArgs false
namespace Go.Proofs.Ytbleionbmdpmeaa
open Go.Abs

theorem endOf_spec (l : List Int) : ∀ n : Nat, (∀ i, endOf l n ≤ i → i < n → l.getD i 0 = 0) ∧ (0 < endOf l n → l.getD (endOf l n - 1) 0 ≠ 0)
  | 0 => ⟨fun i h1 h2 => by omega, fun h => by simp [endOf] at h⟩
  | n + 1 => by
    unfold endOf; split
    · rename_i hz
      obtain ⟨h1, h2⟩ := endOf_spec l n
      refine ⟨fun i g1 g2 => ?_, h2⟩
      by_cases e : i = n
      · rw [e]; exact hz
      · exact h1 i g1 (by omega)
    · rename_i hz
      exact ⟨fun i g1 g2 => by omega, fun _ => by simpa using hz⟩
theorem begOf_spec (l : List Int) (e : Nat) : ∀ f o : Nat, e - o ≤ f → o ≤ begOf l e f o ∧ (∀ i, o ≤ i → i < begOf l e f o → l.getD i 0 = 0) ∧ (begOf l e f o < e → l.getD (begOf l e f o) 0 ≠ 0)
  | 0, o, h => ⟨Nat.le_refl _, fun i h1 h2 => by simp only [begOf] at h2; omega, fun h1 => by simp only [begOf] at h1; omega⟩
  | f + 1, o, h => by
    unfold begOf; split
    · rename_i hc
      obtain ⟨h0, h1, h2⟩ := begOf_spec l e f (o + 1) (by omega)
      refine ⟨by omega, fun i g1 g2 => ?_, h2⟩
      by_cases e : i = o
      · rw [e]; exact hc.2
      · exact h1 i (by omega) g2
    · rename_i hc
      exact ⟨Nat.le_refl _, fun i g1 g2 => by omega, fun g => fun q => hc ⟨g, q⟩⟩
theorem ends_spec (l : List Int) : (∀ i, i < firstOf l → l.getD i 0 = 0) ∧ (∀ i, lastOf l ≤ i → l.getD i 0 = 0) ∧ (firstOf l < lastOf l → l.getD (firstOf l) 0 ≠ 0 ∧ l.getD (lastOf l - 1) 0 ≠ 0) := by
  obtain ⟨h1, h2⟩ := endOf_spec l l.length
  obtain ⟨g0, g1, g2⟩ := begOf_spec l (lastOf l) (lastOf l) 0 (by omega)
  refine ⟨fun i hi => g1 i (Nat.zero_le _) hi, fun i hi => ?_, fun hlt => ⟨g2 hlt, h2 (by show 0 < lastOf l; omega)⟩⟩
  rcases Nat.lt_or_ge i l.length with q | q
  · exact h1 i hi q
  · rw [List.getD_eq_getElem?_getD, List.getElem?_eq_none q]; rfl

structure Conf.Trim (c : Conf) : Prop where
  nil : (c.cs.l.length : Int) = 0 → c.fr = 0
  ext : Ext c.read c.fr (c.fr + c.cs.l.length - 1)
theorem Conf.read_out {c : Conf} {p : Int} (h : c.read p ≠ 0) : c.fr ≤ p ∧ p ≤ c.fr + c.cs.l.length - 1 := by
  unfold Conf.read at h; split at h
  · omega
  · exact (h rfl).elim
theorem Conf.read_at {c : Conf} {i : Int} (h0 : 0 ≤ i) (h1 : i < c.cs.l.length) : c.read (c.fr + i) = c.at i := by
  unfold Conf.read; rw [if_pos (by omega), show c.fr + i - c.fr = i from by omega]
theorem Conf.Within.trim {c : Conf} {ns ny : Int} (h : c.Within ns ny) : c.Trim := by
  refine ⟨h.nil, fun p hp => Conf.read_out hp, fun hle => ?_⟩
  have h1 := h.first (by omega); have h2 := h.last (by omega)
  constructor
  · have := Conf.read_at (c := c) (i := 0) (by omega) (by omega)
    rw [Int.add_zero] at this; rw [this]; exact h1
  · have := Conf.read_at (c := c) (i := c.cs.l.length - 1) (by omega) (by omega)
    rw [show c.fr + (c.cs.l.length : Int) - 1 = c.fr + (c.cs.l.length - 1) from by omega, this]; exact h2
theorem trim_uniq {c c' : Conf} (h : c.Trim) (h' : c'.Trim) (e : ∀ p, c.read p = c'.read p) : c.fr = c'.fr ∧ c.cs.l = c'.cs.l := by
  have e' := h'.ext.congr e
  by_cases hz : (c.cs.l.length : Int) = 0
  · have := h.ext.none e' (by omega)
    have hz' : (c'.cs.l.length : Int) = 0 := by omega
    exact ⟨by rw [h.nil hz, h'.nil hz'], by rw [List.eq_nil_of_length_eq_zero (by omega : c.cs.l.length = 0), List.eq_nil_of_length_eq_zero (by omega : c'.cs.l.length = 0)]⟩
  · obtain ⟨h1, h2⟩ := h.ext.uniq e' (by omega)
    refine ⟨h1.symm, same_of (by omega) (fun i h3 h4 => ?_)⟩
    have a := Conf.read_at (c := c) h3 h4
    have b := Conf.read_at (c := c') (i := i) h3 (by omega)
    have : c.at i = c'.at i := by rw [← a, ← b, e, h1]
    exact this

/-- cells cut to what is not 0 -/
def cutC (st pos : Int) (g : Tag) (l : List Int) (F : Int) : Conf := ⟨st, pos, if firstOf l = lastOf l then 0 else F + firstOf l, ⟨g, (l.drop (firstOf l)).take (lastOf l - firstOf l)⟩⟩
theorem cutC_spec (st pos : Int) (g : Tag) (l : List Int) (F : Int) : (cutC st pos g l F).Trim ∧ (∀ p, (cutC st pos g l F).read p = bget l (-F) p) ∧ (cutC st pos g l F).cs.l.length = lastOf l - firstOf l := by
  have hfl := firstOf_le l; have hll := lastOf_le l
  obtain ⟨h1, h2, h3⟩ := ends_spec l
  have hlen : (cutC st pos g l F).cs.l.length = lastOf l - firstOf l := by simp only [cutC, List.length_take, List.length_drop]; omega
  have hread : ∀ p, (cutC st pos g l F).read p = bget l (-F) p := by
    intro p
    by_cases he : firstOf l = lastOf l
    · have hz : ∀ i, l.getD i 0 = 0 := fun i => by
        rcases Nat.lt_or_ge i (lastOf l) with q | q
        · exact h1 i (by omega)
        · exact h2 i q
      unfold Conf.read bget
      rw [hlen, if_neg (by omega)]
      split
      · rw [hz]
      · rfl
    · have hfr : (cutC st pos g l F).fr = F + firstOf l := by simp only [cutC, if_neg he]
      unfold Conf.read bget
      rw [hlen, hfr]
      by_cases hp : F + firstOf l ≤ p ∧ p - (F + firstOf l) < ((lastOf l - firstOf l : Nat) : Int)
      · rw [if_pos hp, if_pos (by omega)]
        show ((l.drop (firstOf l)).take (lastOf l - firstOf l)).getD (p - (F + firstOf l)).toNat 0 = _
        rw [List.getD_eq_getElem?_getD, List.getElem?_take_of_lt (by omega), List.getElem?_drop, List.getD_eq_getElem?_getD]
        congr 2; omega
      · rw [if_neg hp]
        split
        · rename_i hq
          rcases Nat.lt_or_ge (p + -F).toNat (firstOf l) with q | q
          · exact (h1 _ q).symm
          · exact (h2 _ (by omega)).symm
        · rfl
  refine ⟨⟨fun hz => ?_, fun p hp => Conf.read_out hp, fun hle => ?_⟩, hread, hlen⟩
  · rw [hlen] at hz; simp only [cutC]; rw [if_pos (by omega)]
  · rw [hlen] at hle ⊢
    have hlt : firstOf l < lastOf l := by omega
    have hfr : (cutC st pos g l F).fr = F + firstOf l := by simp only [cutC]; rw [if_neg (by omega)]
    rw [hread, hread, hfr]
    obtain ⟨q1, q2⟩ := h3 hlt
    unfold bget
    rw [if_pos (by omega), if_pos (by omega)]
    constructor
    · rw [show (F + (firstOf l : Int) + -F).toNat = firstOf l from by omega]; exact q1
    · rw [show (F + (firstOf l : Int) + ((lastOf l - firstOf l : Nat) : Int) - 1 + -F).toNat = lastOf l - 1 from by omega]; exact q2

theorem confOf_spec (st pos : Int) (l : List Int) (z : Int) : (confOf st pos l z).Trim ∧ (∀ p, (confOf st pos l z).read p = bget l z p) ∧ (confOf st pos l z).st = st ∧ (confOf st pos l z).pos = pos := by
  obtain ⟨h1, h2, h3⟩ := cutC_spec st pos .full l (0 - z)
  have hz : ∀ p, bget l (-(0 - z)) p = bget l z p := fun p => by rw [show -(0 - z) = z from by omega]
  by_cases he : firstOf l = lastOf l
  · have hc : confOf st pos l z = ⟨st, pos, 0, ⟨.nil, []⟩⟩ := by rw [confOf, if_pos he]
    rw [hc]
    have hlen0 : (cutC st pos .full l (0 - z)).cs.l.length = 0 := by omega
    have hr : ∀ p, Conf.read ⟨st, pos, 0, ⟨.nil, []⟩⟩ p = bget l z p := fun p => by
      rw [← hz, ← h2]; unfold Conf.read; rw [hlen0, if_neg (by simp <;> omega), if_neg (by simp <;> omega)]
    exact ⟨⟨fun _ => rfl, fun p hp => Conf.read_out hp, fun q => by simp at q <;> omega⟩, hr, rfl, rfl⟩
  · have hc : confOf st pos l z = cutC st pos .full l (0 - z) := by rw [confOf, if_neg he, cutC, if_neg he]
    rw [hc]; exact ⟨h1, fun p => by rw [h2, hz], rfl, rfl⟩

/-! ### Put -/

theorem putUp_get (c : Conf) (x to : Int) : ∀ (f : Nat) (i : Int) (q : List Int), to - i = f → putUp c x to f i q = q ++ (List.range f).map fun (j : Nat) => putCell c x (i + (j : Int))
  | 0, i, q, h => by simp [putUp]
  | f + 1, i, q, h => by
    rw [putUp, if_pos (by omega), putUp_get c x to f (i + 1) _ (by omega), List.range_succ_eq_map, List.map_cons, List.map_map, List.append_assoc]
    congr 1
    simp only [List.singleton_append, Int.natCast_zero, Int.ofNat_zero, Int.add_zero, List.cons.injEq]
    refine ⟨by simp, ?_⟩
    apply List.map_congr_left
    intro j _
    simp only [Function.comp]; congr 1; push_cast; omega

theorem putL_spec {c : Conf} {ns ny : Int} (h : c.Within ns ny) (x : Int) (hle : putFr c x ≤ putTo c x) : ((putL c x).length : Int) = putTo c x - putFr c x ∧ ∀ p, bget (putL c x) (-(putFr c x)) p = upd1 c.read c.pos x p := by
  have e : putL c x = (List.range (putTo c x - putFr c x).toNat).map fun (j : Nat) => putCell c x (putFr c x + (j : Int)) := by
    unfold putL; rw [putUp_get c x (putTo c x) _ _ _ (by omega)]; simp
  have hlen : ((putL c x).length : Int) = putTo c x - putFr c x := by rw [e]; simp; omega
  refine ⟨hlen, fun p => ?_⟩
  unfold bget
  by_cases hp : 0 ≤ p + -(putFr c x) ∧ p + -(putFr c x) < (putL c x).length
  · rw [if_pos hp, e, List.getD_eq_getElem?_getD, List.getElem?_map, List.getElem?_range (by omega)]
    simp only [Option.map_some, Option.getD_some, putCell, upd1]
    rw [show putFr c x + ((p + -(putFr c x)).toNat : Int) = p from by omega]
  · rw [if_neg hp]
    unfold upd1
    have hout : c.fr ≤ p ∧ p ≤ c.fr + c.cs.l.length - 1 → putFr c x ≤ p ∧ p < putTo c x := by
      intro q; unfold putFr putTo; repeat' split
      all_goals omega
    split
    · rename_i hpos
      by_cases hx : x = 0
      · exact hx.symm
      · exfalso; apply hp; rw [hlen]; unfold putFr putTo
        rw [if_neg hx, if_neg hx]; repeat' split
        all_goals omega
    · refine Classical.byContradiction (fun q => ?_)
      have := hout (Conf.read_out (fun z => q z.symm))
      omega

theorem putF_spec {c : Conf} {ns ny : Int} (h : c.Within ns ny) (x : Int) :
    ((putF c x).2 = true → (putF c x).1.Trim ∧ (∀ p, (putF c x).1.read p = upd1 c.read c.pos x p) ∧ (putF c x).1.cs.l.length ≤ 100000) ∧ ((putF c x).2 = false → ¬ Repr (upd1 c.read c.pos x)) := by
  have hle : putFr c x ≤ putTo c x := by unfold putFr putTo; repeat' split
                                         all_goals omega
  obtain ⟨hlen, hget⟩ := putL_spec h x hle
  have hcl := h.len
  unfold putF
  split
  · rename_i hb
    refine ⟨fun q => by simp at q, fun _ => ?_⟩
    have hx : x ≠ 0 := by
      intro hx; unfold putFr putTo at hb; rw [if_pos hx, if_pos hx] at hb; omega
    have hn : ¬ (c.cs.l.length : Int) = 0 := by
      intro hn; unfold putFr putTo at hb; rw [if_neg hx, if_pos hn, if_neg hx, if_pos hn] at hb; omega
    have hf : putFr c x = min c.fr c.pos := by unfold putFr; rw [if_neg hx, if_neg hn]
    have ht : putTo c x = max (c.fr + c.cs.l.length) (c.pos + 1) := by unfold putTo; rw [if_neg hx, if_neg hn]
    have he := h.trim.ext.ends (by omega)
    have e : Ext (upd1 c.read c.pos x) (putFr c x) (putTo c x - 1) := by
      refine ⟨fun p hp => ?_, fun _ => ?_⟩
      · unfold upd1 at hp; split at hp
        · omega
        · have := Conf.read_out hp; omega
      · rw [hf, ht]
        constructor
        · by_cases q : c.pos ≤ c.fr
          · rw [show min c.fr c.pos = c.pos from by omega]; unfold upd1; rw [if_pos rfl]; exact hx
          · rw [show min c.fr c.pos = c.fr from by omega]; unfold upd1; rw [if_neg (by omega)]; exact he.1
        · by_cases q : c.fr + c.cs.l.length ≤ c.pos + 1
          · rw [show max (c.fr + (c.cs.l.length : Int)) (c.pos + 1) - 1 = c.pos from by omega]; unfold upd1; rw [if_pos rfl]; exact hx
          · rw [show max (c.fr + (c.cs.l.length : Int)) (c.pos + 1) - 1 = c.fr + c.cs.l.length - 1 from by omega]; unfold upd1; rw [if_neg (by omega)]; exact he.2
    rw [repr_of e]; omega
  · split
    · rename_i hb hnil
      refine ⟨fun _ => ⟨⟨fun _ => rfl, fun p hp => Conf.read_out hp, fun q => by simp at q <;> omega⟩, fun p => ?_, by simp⟩, fun q => by simp at q⟩
      rw [← hget, hnil]; unfold Conf.read bget; rw [if_neg (by simp <;> omega), if_neg (by simp <;> omega)]
    · rename_i hb hnil
      obtain ⟨h1, h2, h3⟩ := cutC_spec c.st c.pos .full (putL c x) (putFr c x)
      refine ⟨fun q => ⟨h1, fun p => by rw [← hget]; exact h2 p, ?_⟩, fun q => ?_⟩
      · simp only [decide_eq_true_eq] at q
        show (cutC c.st c.pos .full (putL c x) (putFr c x)).cs.l.length ≤ 100000
        omega
      · simp only [decide_eq_false_iff_not] at q
        have e := h1.ext.congr (g := upd1 c.read c.pos x) (fun p => by rw [← hget, h2])
        rw [repr_of e]; omega

theorem rstepF_spec {m : Mach} {c : Conf} (hv : m.Valid) (h : c.Within m.ns m.ny) (hs : 0 ≤ c.st) :
    ((rstepF m c).2 = true → (rstepF m c).1.st = (m.rule c.st (c.read c.pos)).nx ∧ (rstepF m c).1.pos = c.pos + (m.rule c.st (c.read c.pos)).mv ∧ ∀ p, (rstepF m c).1.read p = upd1 c.read c.pos (m.rule c.st (c.read c.pos)).wr p) ∧
    ((rstepF m c).2 = true ↔ (-1099511627776 ≤ c.pos + (m.rule c.st (c.read c.pos)).mv ∧ c.pos + (m.rule c.st (c.read c.pos)).mv ≤ 1099511627776) ∧ Repr (upd1 c.read c.pos (m.rule c.st (c.read c.pos)).wr)) := by
  have hrd := read_range hv h c.pos
  have hr := (hv.rows c.st hs h.st1).2 _ hrd.1 hrd.2
  unfold rstepF
  generalize hR : m.rule c.st (c.read c.pos) = R at *
  unfold ruleOk at hr
  obtain ⟨P1, P2⟩ := putF_spec h R.wr
  generalize hP : putF c R.wr = P at *
  cases hp2 : P.2 with
  | false =>
    rw [if_neg (fun q => by cases q.1)]
    exact ⟨fun q => by simp at q, by simp only [Bool.false_eq_true, false_iff]; exact fun q => P2 hp2 q.2⟩
  | true =>
    obtain ⟨T, rd, hl⟩ := P1 hp2
    have e := T.ext.congr (g := upd1 c.read c.pos R.wr) (fun p => (rd p).symm)
    have rd' : ∀ p, Conf.read ⟨R.nx, c.pos + R.mv, P.1.fr, P.1.cs⟩ p = P.1.read p := fun p => rfl
    have key : fits m ⟨R.nx, c.pos + R.mv, P.1.fr, P.1.cs⟩ = true ↔ (-1099511627776 ≤ c.pos + R.mv ∧ c.pos + R.mv ≤ 1099511627776) ∧ Repr (upd1 c.read c.pos R.wr) := by
      rw [repr_of e]
      constructor
      · intro q
        have w := (fits_within q).2
        have := w.pos0; have := w.pos1; have := w.fr0; have := w.fr1
        simp only at *
        omega
      · intro q
        have hnil := T.nil
        have hends := T.ext.ends
        unfold fits
        rw [valid_true hv, within_true, Bool.and_true]
        refine ⟨by simp only; omega, by simp only; omega, by simp only; omega, by simp only; omega, ?_, ?_, by simp only; omega, hnil, fun g => ?_, fun g => ?_, fun i g0 g1 => ?_⟩
        · simp only
          by_cases hz : (P.1.cs.l.length : Int) = 0
          · rw [hnil hz]; omega
          · omega
        · simp only
          by_cases hz : (P.1.cs.l.length : Int) = 0
          · rw [hnil hz]; omega
          · omega
        · have := Conf.read_at (c := P.1) (i := 0) (by omega) g
          rw [Int.add_zero] at this
          have q := (hends (by simp only at g; omega)).1
          rw [this] at q; exact q
        · have := Conf.read_at (c := P.1) (i := P.1.cs.l.length - 1) (by simp only at g; omega) (by omega)
          have q := (hends (by simp only at g; omega)).2
          rw [show P.1.fr + (P.1.cs.l.length : Int) - 1 = P.1.fr + (P.1.cs.l.length - 1) from by omega, this] at q; exact q
        · have := Conf.read_at (c := P.1) (i := i) g0 g1
          have q : 0 ≤ P.1.read (P.1.fr + i) ∧ P.1.read (P.1.fr + i) < m.ny := by
            rw [rd]; unfold upd1; split
            · omega
            · exact read_range hv h _
          rw [this] at q; exact q
    by_cases hf : fits m ⟨R.nx, c.pos + R.mv, P.1.fr, P.1.cs⟩ = true
    · rw [if_pos ⟨rfl, hf⟩]
      exact ⟨fun _ => ⟨rfl, rfl, fun p => by rw [rd', rd]⟩, by simp only [true_iff]; exact key.1 hf⟩
    · rw [if_neg (fun q => hf q.2)]
      exact ⟨fun q => by simp at q, by simp only [Bool.false_eq_true, false_iff]; exact fun q => hf (key.2 q)⟩
end Go.Proofs.Ytbleionbmdpmeaa
