/- The runs of the program and of the specification are the same. -/
import Derived.Test.YtbleionbmdpmeaaT32
set_option linter.unusedVariables false
set_option linter.unusedSimpArgs false
namespace Go.Proofs.Ytbleionbmdpmeaa
open Go.Abs

structure Sim (w : Wk) (c : Conf) : Prop where
  st : w.st = c.st
  pos : w.pos = c.pos
  same : ∀ p, bget w.l w.z p = c.read p

def Agree (m : Mach) : Option (Wk × Nat) → Option (Conf × Nat) → Prop
  | none, none => True
  | some (w, k), some (c, j) => k = j ∧ Sim w c ∧ c.Within m.ns m.ny
  | _, _ => False

theorem runs_agree {m : Mach} {A B : Int} (hv : m.Valid) : ∀ (n : Nat) (w : Wk) (c : Conf), WInv m A B n w → c.Within m.ns m.ny → Sim w c → Agree m (runF m n w) (rrunF m n c)
  | 0, w, c, hw, hc, hs => ⟨rfl, hs, hc⟩
  | n + 1, w, c, hw, hc, hs => by
    unfold runF rrunF
    rw [hs.st]
    by_cases hst : c.st = -1
    · rw [if_pos hst, if_pos hst]; exact ⟨rfl, hs, hc⟩
    · rw [if_neg hst, if_neg hst]
      have hcs := hc.st0
      obtain ⟨S1, S2⟩ := stepF_spec hv (k := n) (by simpa using hw) (by omega) (by rw [hs.st]; exact hst)
      obtain ⟨R1, R2⟩ := rstepF_spec hv hc (by omega)
      have hfun : bget w.l w.z = c.read := funext hs.same
      rw [hs.st, hs.pos, hfun] at S1 S2
      have hfit := rstepF_snd m c
      generalize rstepF m c = P at *
      obtain ⟨c', ok⟩ := P
      simp only at R1 R2 hfit
      cases hsw : stepF m w with
      | none =>
        rw [hsw] at S2
        have : ok = false := by
          cases ok with
          | false => rfl
          | true => exact absurd (S2.2 (R2.1 rfl)) (by simp)
        subst this
        trivial
      | some w' =>
        rw [hsw] at S2
        have : ok = true := R2.2 (S2.1 rfl)
        subst this
        obtain ⟨a1, a2, a3, a4⟩ := S1 w' hsw
        obtain ⟨b1, b2, b3⟩ := R1 rfl
        have ih := runs_agree hv n w' c' a1 (fits_within (hfit rfl)).2 ⟨by rw [a3, b1], by rw [a4, b2], fun p => by rw [a2, b3]⟩
        simp only
        revert ih
        cases runF m n w' with
        | none => cases rrunF m n c' <;> simp [Agree]
        | some r =>
          obtain ⟨w2, k2⟩ := r
          cases rrunF m n c' with
          | none => simp [Agree]
          | some r' => obtain ⟨c2, j2⟩ := r'; simp only [Agree]; exact fun h => ⟨by rw [h.1], h.2⟩

theorem start_read (c : Conf) (p : Int) : bget (startW c).l (startW c).z p = c.read p := by
  show bget c.cs.l (0 - c.fr) p = c.read p
  unfold bget Conf.read
  by_cases h : c.fr ≤ p ∧ p - c.fr < c.cs.l.length
  · rw [if_pos h, if_pos (by omega)]
    show _ = c.cs.l.getD (p - c.fr).toNat 0
    rw [show p + (0 - c.fr) = p - c.fr from by omega]
  · rw [if_neg h, if_neg (by omega)]

theorem start_inv {m : Mach} {c : Conf} (hv : m.Valid) (h : c.Within m.ns m.ny) {n : Int} (h0 : 0 ≤ n) (h1 : n ≤ 1000000) : ∃ A B, WInv m A B n (startW c) := by
  have a1 := h.len; have a2 := h.fr0; have a3 := h.fr1; have a4 := h.pos0; have a5 := h.pos1; have a6 := h.st0; have a7 := h.st1
  have T := h.trim
  have zero : ∀ p, bget (startW c).l (startW c).z p ≠ 0 → c.fr ≤ p ∧ p ≤ c.fr + c.cs.l.length - 1 := fun p hp => T.ext.out p (by rw [← start_read]; exact hp)
  have key : ∀ A B : Int, -2199023255552 ≤ A → B ≤ 2199023255552 → B - A ≤ 16777216 → ((A + 16 + n ≤ c.pos ∧ c.pos ≤ B - 16 - n) ∨ (c.fr ≤ c.fr + c.cs.l.length - 1 ∧ (c.pos + 150000 + n < c.fr ∨ c.fr + c.cs.l.length - 1 + 150000 + n < c.pos))) →
      (0 < (c.cs.l.length : Int) → A ≤ c.fr ∧ c.fr + c.cs.l.length - 1 ≤ B) → WInv m A B n (startW c) := by
    intro A B b1 b2 b3 b4 b5
    refine ⟨⟨b1, b2, b3, h0, a4, a5, b4, fun hle => ?_, ?_, ?_, ?_, ?_, ?_, ?_, ?_, zero⟩, fun p => ?_, a6, a7, fun hle => ?_, ?_, fun hle => ⟨a2, a3⟩⟩
    · have hle' : c.fr ≤ c.fr + (c.cs.l.length : Int) - 1 := hle
      have := b5 (by omega)
      refine ⟨?_, ?_, ?_⟩
      · show Good A B c.cs.l.length (0 - c.fr); unfold Good; omega
      · show 0 ≤ c.fr + (0 - c.fr); omega
      · show c.fr + (c.cs.l.length : Int) - 1 + (0 - c.fr) < c.cs.l.length; omega
    · show c.cs.l.length ≤ 1073741824; omega
    · show -4398046511104 ≤ 0 - c.fr; omega
    · show 0 - c.fr ≤ 4398046511104; omega
    · show -4398046511104 ≤ c.fr; omega
    · show c.fr ≤ 4398046511104; omega
    · show -4398046511104 ≤ c.fr + c.cs.l.length - 1; omega
    · show c.fr + (c.cs.l.length : Int) - 1 ≤ 4398046511104; omega
    · rw [start_read]; exact read_range hv h p
    · show bget (startW c).l (startW c).z c.fr ≠ 0 ∧ bget (startW c).l (startW c).z (c.fr + c.cs.l.length - 1) ≠ 0
      rw [start_read, start_read]; exact T.ext.ends hle
    · show c.fr + (c.cs.l.length : Int) - 1 - c.fr < 100000; omega
  by_cases hz : (c.cs.l.length : Int) = 0
  · exact ⟨c.pos - 2000000, c.pos + 2000000, key _ _ (by omega) (by omega) (by omega) (.inl (by omega)) (fun q => by omega)⟩
  · by_cases hfar : c.pos + 150000 + n < c.fr ∨ c.fr + c.cs.l.length - 1 + 150000 + n < c.pos
    · exact ⟨c.fr, c.fr + c.cs.l.length - 1, key _ _ (by omega) (by omega) (by omega) (.inr ⟨by omega, hfar⟩) (fun q => by omega)⟩
    · exact ⟨min c.fr c.pos - 2000000, max (c.fr + c.cs.l.length - 1) c.pos + 2000000, key _ _ (by omega) (by omega) (by omega) (.inl (by omega)) (fun q => by omega)⟩

/-- what Run comes to -/
theorem run_ok (d : Nat) (m : Mach) (c : Conf) (n : Int) (hm : m.ok) (hc : c.ok) (hf : fits m c = true) (h0 : 0 ≤ n) (h1 : n ≤ 1000000) :
    Ret Try.prog (d + 4) 22 [m.av, c.av, .imm (.int .i64 n)] [] (runOut (runF m n.toNat (startW c))) [] ∧ Agree m (runF m n.toNat (startW c)) (rrunF m n.toNat c) := by
  obtain ⟨hv, hw⟩ := fits_within hf
  obtain ⟨A, B, hi⟩ := start_inv hv hw h0 h1
  refine ⟨run_ret d m c n hm hc hv hf hw h0 h1 A B hi (fun k w w' a b s e => ((stepF_spec hv a b s).1 w' e).1), runs_agree hv n.toNat _ _ (by rw [Int.toNat_of_nonneg h0]; exact hi) hw ⟨rfl, rfl, start_read c⟩⟩
/-- and its configuration is the specification's -/
theorem agree_conf {m : Mach} {w : Wk} {c : Conf} (hs : Sim w c) (hc : c.Within m.ns m.ny) : (confOf w.st w.pos w.l w.z).st = c.st ∧ (confOf w.st w.pos w.l w.z).pos = c.pos ∧ (confOf w.st w.pos w.l w.z).fr = c.fr ∧ (confOf w.st w.pos w.l w.z).cs.l = c.cs.l := by
  obtain ⟨T, rd, e1, e2⟩ := confOf_spec w.st w.pos w.l w.z
  obtain ⟨g1, g2⟩ := trim_uniq T hc.trim (fun p => by rw [rd, hs.same])
  exact ⟨by rw [e1, hs.st], by rw [e2, hs.pos], g1, g2⟩
end Go.Proofs.Ytbleionbmdpmeaa
