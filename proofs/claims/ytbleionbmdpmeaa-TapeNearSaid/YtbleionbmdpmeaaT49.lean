/- What a step and a run come to, next to their specification. -/
import Derived.Test.YtbleionbmdpmeaaT34
set_option linter.unusedVariables false
set_option linter.unusedSimpArgs false
namespace Go.Proofs.Ytbleionbmdpmeaa
open Go.Abs

theorem same_true {a b : Conf} (h1 : a.st = b.st) (h2 : a.pos = b.pos) (h3 : a.fr = b.fr) (h4 : a.cs.l = b.cs.l) : sameConf a b = true := by
  unfold sameConf; exact decide_eq_true ⟨h1, h2, h3, h4⟩
theorem same_self (a : Conf) : sameConf a a = true := same_true rfl rfl rfl rfl

theorem within_ok {m : Mach} {c : Conf} (hv : m.Valid) (h : c.Within m.ns m.ny) : c.ok := by
  have a1 := hv.ns6; have a2 := hv.ny4; have b1 := h.st0; have b2 := h.st1; have b3 := h.pos0; have b4 := h.pos1; have b5 := h.fr0; have b6 := h.fr1; have b7 := h.len
  refine ⟨by unfold i64ok; omega, by unfold i64ok; omega, by unfold i64ok; omega, by unfold lenok; omega, fun n hn => ?_⟩
  obtain ⟨i, hi, rfl⟩ := List.getElem_of_mem hn
  have := h.cells i (by omega) (by omega)
  have hat : c.at i = c.cs.l[i] := by unfold Conf.at Lst.at; simp [List.getD_eq_getElem?_getD, hi]
  rw [hat] at this; unfold i64ok; omega
theorem ok_same {a b : Conf} (h : b.ok) (h1 : a.st = b.st) (h2 : a.pos = b.pos) (h3 : a.fr = b.fr) (h4 : a.cs.l = b.cs.l) : a.ok :=
  ⟨by rw [h1]; exact h.st, by rw [h2]; exact h.pos, by rw [h3]; exact h.fr, by rw [h4]; exact h.len, by rw [h4]; exact h.cells⟩

/-- a run and its specification -/
theorem run_key {m : Mach} {c : Conf} (hm : m.ok) (hc : c.ok) (hf : fits m c = true) {n : Int} (h0 : 0 ≤ n) (h1 : n ≤ 1000000) :
    ∃ (r r' : Conf) (k : Nat) (b : Bool), runOut (runF m n.toNat (startW c)) = .tup [r.av, .imm (.int .i64 k), .imm (.int .i64 (if b = true then 0 else 4))] ∧
      rrunOut (rrunF m n.toNat c) = .tup [r'.av, .imm (.int .i64 k), .imm (.bool b)] ∧ r.ok ∧ r'.ok ∧ sameConf r r' = true := by
  have hv := (fits_within hf).1
  have A := (run_ok 0 m c n hm hc hf h0 h1).2
  revert A
  cases hr : runF m n.toNat (startW c) with
  | none =>
    cases hq : rrunF m n.toNat c with
    | none => intro _; exact ⟨conf0, conf0, 0, false, rfl, rfl, conf0_ok, conf0_ok, same_self _⟩
    | some q => intro A; exact A.elim
  | some p =>
    cases hq : rrunF m n.toNat c with
    | none => intro A; obtain ⟨w, k⟩ := p; exact A.elim
    | some q =>
      obtain ⟨w, k⟩ := p; obtain ⟨r', j⟩ := q
      rintro ⟨e, hs, hw⟩
      subst e
      obtain ⟨e1, e2, e3, e4⟩ := agree_conf hs hw
      have hk := within_ok hv hw
      exact ⟨_, r', k, true, rfl, rfl, ok_same hk e1 e2 e3 e4, hk, same_true e1 e2 e3 e4⟩

theorem rrun_one (m : Mach) (c : Conf) (hs : c.st ≠ -1) : rrunOut (rrunF m 1 c) = .tup [(rstepF m c).1.av, .imm (.int .i64 (if (rstepF m c).2 = true then (1 : Nat) else 0)), .imm (.bool (rstepF m c).2)] := by
  unfold rrunF
  rw [if_neg hs]
  have h0 : (rstepF m c).2 = false → (rstepF m c).1 = conf0 := by unfold rstepF; split <;> simp
  generalize rstepF m c = p at h0 ⊢
  obtain ⟨c', b⟩ := p
  cases b with
  | false => have := h0 rfl; simp only at this; subst this; rfl
  | true => rfl

theorem Conf.av_inj {a b : Conf} (h : a.av = b.av) : a.st = b.st ∧ a.pos = b.pos ∧ a.fr = b.fr ∧ a.cs.l = b.cs.l := by
  unfold Conf.av at h
  injection h with h
  injection h with h1 h; injection h with h2 h; injection h with h3 h; injection h with h4 h
  injection h1 with h1; injection h1 with _ h1
  injection h2 with h2; injection h2 with _ h2
  injection h3 with h3; injection h3 with _ h3
  injection h4 with h4
  refine ⟨h1, h2, h3, ?_⟩
  unfold intsIV Lst.iv at h4
  injection h4 with _ _ h4
  have : ∀ x y : List Int, (x.flatMap fun n => ([.int .i64 n] : List IVal)) = y.flatMap (fun n => [.int .i64 n]) → x = y := by
    intro x
    induction x with
    | nil => intro y hy; cases y <;> simp_all
    | cons n x ih => intro y hy; cases y with
      | nil => simp at hy
      | cons k y =>
        simp only [List.flatMap_cons, List.singleton_append, List.cons.injEq] at hy
        obtain ⟨e, hy⟩ := hy; injection e with _ e; rw [e, ih y hy]
  exact this _ _ h4

/-- a step and its specification -/
theorem step_key {m : Mach} {c : Conf} (hm : m.ok) (hc : c.ok) (hf : fits m c = true) (hs : c.st ≠ -1) (d : Nat) :
    ∃ (r : Conf), Ret Try.prog (d + 5) 21 [m.av, c.av] [] (.tup [r.av, .imm (.int .i64 (if (rstepF m c).2 = true then 0 else 4))]) [] ∧ r.ok ∧ sameConf r (rstepF m c).1 = true := by
  obtain ⟨r, r', k, b, e1, e2, o1, o2, hsame⟩ := run_key hm hc hf (n := 1) (by omega) (by omega)
  rw [show (1 : Int).toNat = 1 from rfl] at e1 e2
  rw [rrun_one m c hs] at e2
  injection e2 with e2
  injection e2 with a1 e2; injection e2 with a2 e2; injection e2 with a3 e2
  injection a3 with a3; injection a3 with a3
  obtain ⟨f1, f2, f3, f4⟩ := Conf.av_inj a1
  refine ⟨r, ?_, o1, ?_⟩
  · rw [a3]; exact tstep_ret d m c hm hc hf hs r _ _ e1
  · unfold sameConf at hsame ⊢
    have := of_decide_eq_true hsame
    exact decide_eq_true ⟨by rw [this.1, f1], by rw [this.2.1, f2], by rw [this.2.2.1, f3], by rw [this.2.2.2, f4]⟩
end Go.Proofs.Ytbleionbmdpmeaa
