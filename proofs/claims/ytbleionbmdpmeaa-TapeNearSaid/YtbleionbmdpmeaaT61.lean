/- Run for every argument, and runs one behind the other. -/
import Derived.Test.YtbleionbmdpmeaaT49
set_option linter.unusedVariables false
set_option linter.unusedSimpArgs false
namespace Go.Proofs.Ytbleionbmdpmeaa
open Go.Abs

noncomputable def runX (m : Mach) (c : Conf) (n : Int) : Conf × Int × Int :=
  if fits m c = false then (conf0, 0, 1) else if n < 0 ∨ 1000000 < n then (conf0, 0, 2) else
  match runF m n.toNat (startW c) with
  | none => (conf0, 0, 4)
  | some (w, k) => (confOf w.st w.pos w.l w.z, k, 0)

theorem run_all (d : Nat) (m : Mach) (c : Conf) (n : Int) (hm : m.ok) (hc : c.ok) :
    Ret Try.prog (d + 4) 22 [m.av, c.av, .imm (.int .i64 n)] [] (.tup [(runX m c n).1.av, .imm (.int .i64 (runX m c n).2.1), .imm (.int .i64 (runX m c n).2.2)]) [] := by
  unfold runX
  split
  · rename_i hf; exact run_form_ret (d + 1) m c n hm hc hf
  · rename_i hf
    have hf : fits m c = true := by simpa using hf
    split
    · rename_i hn; exact run_arg_ret (d + 1) m c n hm hc hf hn
    · rename_i hn
      have R := (run_ok d m c n hm hc hf (by omega) (by omega)).1
      unfold runOut at R
      cases h : runF m n.toNat (startW c) with
      | none => rw [h] at R; exact R
      | some p => obtain ⟨w, k⟩ := p; rw [h] at R; exact R

theorem fits_fields {m : Mach} {a b : Conf} (h1 : a.st = b.st) (h2 : a.pos = b.pos) (h3 : a.fr = b.fr) (h4 : a.cs.l = b.cs.l) (h : b.Within m.ns m.ny) : a.Within m.ns m.ny := by
  obtain ⟨ast, apos, afr, ⟨ag, al⟩⟩ := a
  obtain ⟨bst, bpos, bfr, ⟨bg, bl⟩⟩ := b
  simp only at h1 h2 h3 h4
  subst h1 h2 h3 h4
  exact ⟨h.st0, h.st1, h.pos0, h.pos1, h.fr0, h.fr1, h.len, h.nil, h.first, h.last, h.cells⟩
theorem fits_of {m : Mach} {c : Conf} (hv : m.Valid) (h : c.Within m.ns m.ny) : fits m c = true := by
  unfold fits valid within; simp [hv, h]

theorem rrunF_succ (m : Mach) (n : Nat) (c : Conf) : rrunF m (n + 1) c = if c.st = -1 then some (c, 0) else match rstepF m c with
    | (_, false) => none
    | (c', true) => match rrunF m n c' with
      | none => none
      | some r => some (r.1, r.2 + 1) := by rw [rrunF]; split <;> rfl

theorem rrunF_add (m : Mach) (K : Nat) : ∀ (N : Nat) (c : Conf), rrunF m (N + K) c = match rrunF m N c with
    | none => none
    | some p => match rrunF m K p.1 with
      | none => none
      | some q => some (q.1, p.2 + q.2)
  | 0, c => by
    rw [Nat.zero_add]; simp only [rrunF]
    cases rrunF m K c with
    | none => rfl
    | some q => simp
  | N + 1, c => by
    rw [show N + 1 + K = (N + K) + 1 from by omega]
    rw [rrunF_succ, rrunF_succ]
    by_cases hs : c.st = -1
    · rw [if_pos hs, if_pos hs]
      cases K with
      | zero => simp [rrunF]
      | succ K => simp [rrunF, hs]
    · rw [if_neg hs, if_neg hs]
      generalize rstepF m c = P
      obtain ⟨c', b⟩ := P
      cases b with
      | false => rfl
      | true =>
        simp only
        rw [rrunF_add m K N c']
        cases rrunF m N c' with
        | none => rfl
        | some p =>
          simp only
          cases h : rrunF m K p.1 with
          | none => rfl
          | some q => simp only; rw [show p.2 + q.2 + 1 = p.2 + 1 + q.2 from by omega]

/-- a run that ends, next to its specification -/
theorem runX_spec {m : Mach} {c : Conf} (hm : m.ok) (hc : c.ok) (hf : fits m c = true) {n : Int} (h0 : 0 ≤ n) (h1 : n ≤ 1000000) :
    match rrunF m n.toNat c with
    | none => runX m c n = (conf0, 0, 4)
    | some (c', k) => (runX m c n).2 = ((k : Int), 0) ∧ c'.Within m.ns m.ny ∧ (runX m c n).1.st = c'.st ∧ (runX m c n).1.pos = c'.pos ∧ (runX m c n).1.fr = c'.fr ∧ (runX m c n).1.cs.l = c'.cs.l := by
  have A := (run_ok 0 m c n hm hc hf h0 h1).2
  unfold runX
  rw [if_neg (by rw [hf]; decide), if_neg (by omega)]
  revert A
  cases hr : runF m n.toNat (startW c) with
  | none =>
    cases hq : rrunF m n.toNat c with
    | none => intro _; rfl
    | some q => intro A; exact A.elim
  | some p =>
    cases hq : rrunF m n.toNat c with
    | none => intro A; obtain ⟨w, k⟩ := p; exact A.elim
    | some q =>
      obtain ⟨w, k⟩ := p; obtain ⟨c', j⟩ := q
      rintro ⟨e, hs, hw⟩
      subst e
      obtain ⟨e1, e2, e3, e4⟩ := agree_conf hs hw
      exact ⟨rfl, hw, e1, e2, e3, e4⟩

theorem runX_ok {m : Mach} {c : Conf} (hm : m.ok) (hc : c.ok) (n : Int) : (runX m c n).1.ok := by
  by_cases hf : fits m c = true
  · by_cases hn : n < 0 ∨ 1000000 < n
    · unfold runX; rw [if_neg (by rw [hf]; decide), if_pos hn]; exact conf0_ok
    · have S := runX_spec hm hc hf (n := n) (by omega) (by omega)
      cases h : rrunF m n.toNat c with
      | none => rw [h] at S; rw [S]; exact conf0_ok
      | some p =>
        obtain ⟨c', k⟩ := p
        rw [h] at S
        obtain ⟨_, hw, e1, e2, e3, e4⟩ := S
        exact ok_same (within_ok (fits_within hf).1 hw) e1 e2 e3 e4
  · unfold runX; rw [if_pos (by simpa using hf)]; exact conf0_ok

theorem runX_fields {m : Mach} {a b : Conf} (h1 : a.st = b.st) (h2 : a.pos = b.pos) (h3 : a.fr = b.fr) (h4 : a.cs.l = b.cs.l) (ha : fits m a = true) (hb : fits m b = true) (n : Int) : runX m a n = runX m b n := by
  unfold runX
  rw [ha, hb, show startW a = startW b from by unfold startW; rw [h1, h2, h3, h4]]

theorem rrunF_le (m : Mach) : ∀ (N : Nat) (c : Conf), match rrunF m N c with | none => True | some p => p.2 ≤ N
  | 0, c => by simp [rrunF]
  | N + 1, c => by
    rw [rrunF_succ]
    by_cases hs : c.st = -1
    · rw [if_pos hs]; exact Nat.zero_le _
    · rw [if_neg hs]
      generalize rstepF m c = P
      obtain ⟨c', b⟩ := P
      cases b with
      | false => trivial
      | true =>
        simp only
        have := rrunF_le m N c'
        revert this
        cases rrunF m N c' with
        | none => intro _; trivial
        | some p => simp only; omega
theorem runX_le {m : Mach} {c : Conf} (hm : m.ok) (hc : c.ok) {n : Int} (h0 : 0 ≤ n) (h1 : n ≤ 1000000) : 0 ≤ (runX m c n).2.1 ∧ (runX m c n).2.1 ≤ n := by
  by_cases hf : fits m c = true
  · have S := runX_spec hm hc hf h0 h1
    have T := rrunF_le m n.toNat c
    cases h : rrunF m n.toNat c with
    | none => rw [h] at S; simp only at S; rw [S]; exact ⟨Int.le_refl _, h0⟩
    | some p =>
      obtain ⟨c', k⟩ := p
      rw [h] at S T
      simp only at S T
      rw [S.1]; simp only; omega
  · unfold runX; rw [if_pos (by simpa using hf)]; exact ⟨Int.le_refl _, h0⟩

/-- n + k steps are n steps and then k -/
theorem parts {m : Mach} {c : Conf} (hm : m.ok) (hc : c.ok) {n k : Int} (h0 : 0 ≤ n) (h1 : 0 ≤ k) (h2 : n + k ≤ 1000) :
    ((runX m c n).2.2 ≠ 0 → (runX m c (n + k)).2.2 = (runX m c n).2.2) ∧
    ((runX m c n).2.2 = 0 → (runX m c (n + k)).2.2 = (runX m (runX m c n).1 k).2.2 ∧ sameConf (runX m c (n + k)).1 (runX m (runX m c n).1 k).1 = true ∧
      ((runX m c (n + k)).2.2 = 0 → (runX m c (n + k)).2.1 = (runX m c n).2.1 + (runX m (runX m c n).1 k).2.1)) := by
  by_cases hf : fits m c = true
  · have hv := (fits_within hf).1
    have S1 := runX_spec hm hc hf (n := n) h0 (by omega)
    have S2 := runX_spec hm hc hf (n := n + k) (by omega) (by omega)
    rw [show (n + k).toNat = n.toNat + k.toNat from by omega, rrunF_add] at S2
    cases hr : rrunF m n.toNat c with
    | none =>
      rw [hr] at S1 S2
      simp only at S1 S2
      rw [S1, S2]
      exact ⟨fun _ => rfl, fun h => by simp at h⟩
    | some p =>
      obtain ⟨c', i⟩ := p
      rw [hr] at S1 S2
      simp only at S1 S2
      obtain ⟨e0, hw, e1, e2, e3, e4⟩ := S1
      have hf' := fits_of hv hw
      have hfB := fits_of hv (fits_fields e1 e2 e3 e4 hw)
      refine ⟨fun h => absurd (by rw [e0]) h, fun _ => ?_⟩
      rw [runX_fields e1 e2 e3 e4 hfB hf' k, e0]
      have S3 := runX_spec hm (within_ok hv hw) hf' (n := k) h1 (by omega)
      cases hq : rrunF m k.toNat c' with
      | none =>
        rw [hq] at S2 S3
        simp only at S2 S3
        rw [S2, S3]
        exact ⟨rfl, same_self _, fun h => by simp at h⟩
      | some q =>
        obtain ⟨c2, j⟩ := q
        rw [hq] at S2 S3
        simp only at S2 S3
        obtain ⟨f0, _, f1, f2, f3, f4⟩ := S2
        obtain ⟨g0, _, g1, g2, g3, g4⟩ := S3
        rw [f0, g0]
        exact ⟨rfl, same_true (by rw [f1, g1]) (by rw [f2, g2]) (by rw [f3, g3]) (by rw [f4, g4]), fun _ => by simp⟩
  · have e : ∀ n, runX m c n = (conf0, 0, 1) := fun n => by unfold runX; rw [if_pos (by simpa using hf)]
    rw [e, e]
    exact ⟨fun _ => rfl, fun h => by simp at h⟩
end Go.Proofs.Ytbleionbmdpmeaa
