/- Step and Run of the specification; Step of the program. -/
import Derived.Test.YtbleionbmdpmeaaT19
set_option linter.unusedVariables false
set_option linter.unusedSimpArgs false
namespace Go.Proofs.Ytbleionbmdpmeaa
open Go.Abs

theorem getD_ok {l : List Int} (h : ∀ n ∈ l, i64ok n) (j : Nat) : i64ok (l.getD j 0) := by
  rw [List.getD_eq_getElem?_getD]
  cases hx : l[j]? with
  | none => simp [i64ok]
  | some v => exact h v (List.mem_of_getElem? hx)
theorem read_ok {c : Conf} (hc : c.ok) (p : Int) : i64ok (c.read p) := by
  unfold Conf.read; split
  · exact getD_ok hc.cells _
  · simp [i64ok]
theorem putUp_ok {c : Conf} {x : Int} (hc : c.ok) (hx : i64ok x) (to : Int) : ∀ (f : Nat) (i : Int) (q : List Int), (∀ n ∈ q, i64ok n) → (∀ n ∈ putUp c x to f i q, i64ok n) ∧ (putUp c x to f i q).length ≤ q.length + f
  | 0, i, q, h => ⟨h, Nat.le_refl _⟩
  | f + 1, i, q, h => by
    unfold putUp; split
    · obtain ⟨h1, h2⟩ := putUp_ok hc hx to f (i + 1) (q ++ [putCell c x i]) (by
        intro n hn; simp only [List.mem_append, List.mem_singleton] at hn
        rcases hn with hn | rfl
        · exact h n hn
        · unfold putCell; split
          · exact hx
          · exact read_ok hc _)
      exact ⟨h1, by simp only [List.length_append, List.length_singleton] at h2; omega⟩
    · exact ⟨h, by omega⟩
theorem conf0_ok : conf0.ok := ⟨by simp [conf0, i64ok], by simp [conf0, i64ok], by simp [conf0, i64ok], by simp [conf0, lenok], by intro n hn; simp [conf0] at hn⟩
theorem putF_ok {c : Conf} {x : Int} (hc : c.ok) (hx : i64ok x) (hl : c.cs.l.length ≤ 100000) (p0 : -1099511627776 ≤ c.pos) (p1 : c.pos ≤ 1099511627776) (f0 : -1099511627776 ≤ c.fr) (f1 : c.fr ≤ 1099511627776) : (putF c x).1.ok := by
  unfold putF; split
  · exact conf0_ok
  · rename_i hb
    split
    · exact ⟨hc.st, hc.pos, by simp [i64ok], by simp [lenok], by intro n hn; simp at hn⟩
    · obtain ⟨h1, h2⟩ := putUp_ok hc hx (putTo c x) (putTo c x - putFr c x).toNat (putFr c x) [] (by intro n hn; cases hn)
      have hlen : (putL c x).length ≤ 100001 := by
        have : (putL c x).length ≤ 0 + (putTo c x - putFr c x).toNat := h2
        omega
      have hfl := firstOf_le (putL c x)
      have hll := lastOf_le (putL c x)
      have hfr : -1099511627776 ≤ putFr c x ∧ putFr c x ≤ 1099511627776 := by
        unfold putFr; repeat' split
        all_goals omega
      refine ⟨hc.st, hc.pos, ?_, ?_, ?_⟩
      · simp only [i64ok]; split <;> omega
      · simp only [lenok, List.length_take, List.length_drop]; omega
      · intro n hn
        exact h1 n (List.mem_of_mem_drop (List.mem_of_mem_take hn))

noncomputable def rstepF (m : Mach) (c : Conf) : Conf × Bool :=
  if (putF c (m.rule c.st (c.read c.pos)).wr).2 = true ∧ fits m ⟨(m.rule c.st (c.read c.pos)).nx, c.pos + (m.rule c.st (c.read c.pos)).mv, (putF c (m.rule c.st (c.read c.pos)).wr).1.fr, (putF c (m.rule c.st (c.read c.pos)).wr).1.cs⟩ = true
  then (⟨(m.rule c.st (c.read c.pos)).nx, c.pos + (m.rule c.st (c.read c.pos)).mv, (putF c (m.rule c.st (c.read c.pos)).wr).1.fr, (putF c (m.rule c.st (c.read c.pos)).wr).1.cs⟩, true) else (conf0, false)

set_option maxHeartbeats 1000000 in
set_option maxRecDepth 10000 in
theorem rstep_ret (d : Nat) (m : Mach) (c : Conf) (hm : m.ok) (hc : c.ok) (hv : m.Valid) (hf : c.Within m.ns m.ny) (hs : 0 ≤ c.st) (hx0 : 0 ≤ c.read c.pos) (hx1 : c.read c.pos < m.ny) :
    Ret Try.prog (d + 4) 24 [m.av, c.av] [] (.tup [(rstepF m c).1.av, .imm (.bool (rstepF m c).2)]) [] := by
  have a1 := hf.len; have a2 := hf.fr0; have a3 := hf.fr1; have a4 := hf.pos0; have a5 := hf.pos1; have a6 := hf.st1
  have hr := (hv.rows c.st hs a6).2 (c.read c.pos) hx0 hx1
  have hl := (hv.rows c.st hs a6).1
  have hlen := hv.len
  have hns := hv.ns6; have hny := hv.ny4
  unfold ruleOk at hr
  obtain ⟨r1, r2, r3, r4, r5⟩ := hr
  refine Ret.mkE Try.func24 rfl (of_decide_eq_true (by kernel_rfl)) Try.ntmps24 rfl ?_
  intro Q hQ1 hQ2
  refine Eq.mpr (congrFun (congrArg _ rfl) _) (?_ : awpW _ _ _ _ _ (un _))
  simp (maxSteps := 2000000) (disch := omega) only [go_sem, Nat.reduceSub, Nat.reduceAdd, Nat.reduceLT, Nat.reduceEqDiff, Nat.reduceBEq, Mach.av, Conf.av]
  refine awp_draw [13] (by kernel_rfl) (by kernel_rfl) ?_
  simp (maxSteps := 2000000) (disch := omega) only [go_sem, Nat.reduceSub, Nat.reduceAdd, Nat.reduceLT, Nat.reduceEqDiff, Nat.reduceBEq]
  refine call_imm (read_ret _ c c.pos hc (by unfold i64ok; omega)) rfl rfl ?_
  simp (maxSteps := 2000000) (disch := omega) only [go_sem, Nat.reduceSub, Nat.reduceAdd, Nat.reduceLT, Nat.reduceEqDiff, Nat.reduceBEq]
  have hxok : i64ok (m.rule c.st (c.read c.pos)).wr := by unfold i64ok; omega
  have hpok := putF_ok hc hxok (by omega) a4 a5 a2 a3
  unfold rstepF at hQ1 hQ2
  generalize hR : m.rule c.st (c.read c.pos) = R at *
  refine call_imm (put_ret _ c R.wr hc hxok (by omega) a4 a5 a2 a3) rfl rfl ?_
  simp (maxSteps := 2000000) (disch := omega) only [go_sem, Nat.reduceSub, Nat.reduceAdd, Nat.reduceLT, Nat.reduceEqDiff, Nat.reduceBEq, Conf.av]
  refine awp_drawQ ⟨[8, 10], [6], [3]⟩ (by kernel_rfl) (by kernel_rfl) (by simp) ?_
  simp (maxSteps := 2000000) (disch := omega) only [go_sem, Nat.reduceSub, Nat.reduceAdd, Nat.reduceLT, Nat.reduceEqDiff, Nat.reduceBEq]
  generalize hP : putF c R.wr = P at *
  have hok : Conf.ok ⟨R.nx, c.pos + R.mv, P.1.fr, P.1.cs⟩ := ⟨by simp only [i64ok]; omega, by simp only [i64ok]; omega, hpok.fr, hpok.len, hpok.cells⟩
  cases hp2 : P.2 with
  | true =>
    simp (maxSteps := 2000000) (disch := omega) only [go_sem, Nat.reduceSub, Nat.reduceAdd, Nat.reduceLT, Nat.reduceEqDiff, Nat.reduceBEq, hp2]
    refine call_imm (rfits_ret _ m ⟨R.nx, c.pos + R.mv, P.1.fr, P.1.cs⟩ hm hok) rfl rfl ?_
    cases hf2 : fits m ⟨R.nx, c.pos + R.mv, P.1.fr, P.1.cs⟩ with
    | true =>
      simp (maxSteps := 2000000) (disch := omega) only [go_sem, Nat.reduceSub, Nat.reduceAdd, Nat.reduceLT, Nat.reduceEqDiff, Nat.reduceBEq, hf2]
      refine hQ2 _ _ (Fin.sim [] [.re []] [.cell 4 27, .tmp 5] rfl gh_nil ?_)
      simp (maxSteps := 2000000) (disch := omega) only [go_sem, Nat.reduceSub, Nat.reduceAdd, Nat.reduceLT, Nat.reduceEqDiff, Nat.reduceBEq]
      rw [gh_re rfl, if_pos ⟨hp2, hf2⟩]; simp only [go_sem, Nat.reduceSub, Nat.reduceAdd, Nat.reduceEqDiff, Nat.reduceBEq, Conf.av]
    | false =>
      simp (maxSteps := 2000000) (disch := omega) only [go_sem, Nat.reduceSub, Nat.reduceAdd, Nat.reduceLT, Nat.reduceEqDiff, Nat.reduceBEq, hf2]
      refine hQ2 _ _ (Fin.sim [] [.re []] [.cell 4 27, .tmp 5] rfl gh_nil ?_)
      simp (maxSteps := 2000000) (disch := omega) only [go_sem, Nat.reduceSub, Nat.reduceAdd, Nat.reduceLT, Nat.reduceEqDiff, Nat.reduceBEq]
      rw [gh_re rfl, if_neg (fun q => by rw [hf2] at q; cases q.2)]; simp only [go_sem, Nat.reduceSub, Nat.reduceAdd, Nat.reduceEqDiff, Nat.reduceBEq, Conf.av, conf0]; rfl
  | false =>
    simp (maxSteps := 2000000) (disch := omega) only [go_sem, Nat.reduceSub, Nat.reduceAdd, Nat.reduceLT, Nat.reduceEqDiff, Nat.reduceBEq, hp2]
    refine hQ2 _ _ (Fin.sim [] [.re []] [.cell 4 27, .tmp 5] rfl gh_nil ?_)
    simp (maxSteps := 2000000) (disch := omega) only [go_sem, Nat.reduceSub, Nat.reduceAdd, Nat.reduceLT, Nat.reduceEqDiff, Nat.reduceBEq]
    rw [gh_re rfl, if_neg (fun q => by rw [hp2] at q; cases q.1)]; simp only [go_sem, Nat.reduceSub, Nat.reduceAdd, Nat.reduceEqDiff, Nat.reduceBEq, Conf.av, conf0]; rfl

noncomputable def rrunF (m : Mach) : Nat → Conf → Option (Conf × Nat)
  | 0, c => some (c, 0)
  | n + 1, c => if c.st = -1 then some (c, 0) else match rstepF m c with
    | (_, false) => none
    | (c', true) => match rrunF m n c' with
      | none => none
      | some r => some (r.1, r.2 + 1)
def rrunOut (r : Option (Conf × Nat)) : AVal := match r with
  | none => .tup [conf0.av, .imm (.int .i64 0), .imm (.bool false)]
  | some (c, k) => .tup [c.av, .imm (.int .i64 k), .imm (.bool true)]
def addC (k : Nat) (r : Option (Conf × Nat)) : Option (Conf × Nat) := match r with
  | none => none
  | some (w, j) => some (w, k + j)
theorem rstepF_snd (m : Mach) (c : Conf) : (rstepF m c).2 = true → fits m (rstepF m c).1 = true := by
  unfold rstepF; split
  · rename_i h; intro _; exact h.2
  · intro h; cases h
theorem fits_within {m : Mach} {c : Conf} (h : fits m c = true) : m.Valid ∧ c.Within m.ns m.ny := by
  unfold fits valid within at h
  simpa using h
theorem read_range {m : Mach} {c : Conf} (hv : m.Valid) (h : c.Within m.ns m.ny) (p : Int) : 0 ≤ c.read p ∧ c.read p < m.ny := by
  have := hv.ny2
  unfold Conf.read; split
  · rename_i hp; exact h.cells _ (by omega) (by omega)
  · omega
theorem rstepF_ok {m : Mach} {c : Conf} (hv : m.Valid) (hc : c.ok) (hf : c.Within m.ns m.ny) (hs : 0 ≤ c.st) : (rstepF m c).1.ok := by
  have hr := read_range hv hf c.pos
  have a1 := hf.len; have a2 := hf.fr0; have a3 := hf.fr1; have a4 := hf.pos0; have a5 := hf.pos1; have a6 := hf.st1
  have hr := (hv.rows c.st hs a6).2 (c.read c.pos) hr.1 hr.2
  have hns := hv.ns6; have hny := hv.ny4
  unfold ruleOk at hr
  obtain ⟨r1, r2, r3, r4, r5⟩ := hr
  have hpok := putF_ok hc (x := (m.rule c.st (c.read c.pos)).wr) (by unfold i64ok; omega) (by omega) a4 a5 a2 a3
  unfold rstepF; split
  · exact ⟨by simp only [i64ok]; omega, by simp only [i64ok]; omega, hpok.fr, hpok.len, hpok.cells⟩
  · exact conf0_ok

set_option maxHeartbeats 1000000 in
set_option maxRecDepth 10000 in
theorem rrun_ret (d : Nat) (m : Mach) (c : Conf) (n : Int) (hm : m.ok) (hc : c.ok) (hf : fits m c = true) (h0 : 0 ≤ n) (h1 : n ≤ 1000000) :
    Ret Try.prog (d + 5) 26 [m.av, c.av, .imm (.int .i64 n)] [] (rrunOut (rrunF m n.toNat c)) [] := by
  have hv := (fits_within hf).1
  refine Ret.mkE Try.func26 rfl (of_decide_eq_true (by kernel_rfl)) Try.ntmps26 rfl ?_
  intro Q hQ1 hQ2
  refine Eq.mpr (congrFun (congrArg _ rfl) _) (?_ : awpW _ _ _ _ _ (un _))
  simp (maxSteps := 2000000) (disch := omega) only [go_sem, Nat.reduceSub, Nat.reduceAdd, Nat.reduceLT, Nat.reduceEqDiff, Nat.reduceBEq, Mach.av, Conf.av]
  generalize hr0 : rrunF m n.toNat c = r0
  refine awp_loopX (fun q : Conf × Nat × Nat => tmP 32 .any [(2, .imm (.int .i64 n)), (3, .ptr 0 0), (4, .ptr 1 0), (6, .ptr 2 0), (9, .imm (.int .i64 q.2.1))] [])
    (fun q => [.obj 0 [.imm (.int .i64 m.ns), .imm (.int .i64 m.ny), .imm (rowsIV m.rs)], .obj 0 [.imm (.int .i64 q.1.st), .imm (.int .i64 q.1.pos), .imm (.int .i64 q.1.fr), .imm (intsIV q.1.cs)], .obj 0 [.imm (.int .i64 0), .imm (.int .i64 0), .imm (.int .i64 0), .imm (.lst .nil 0 [])]])
    (fun q => q.1.ok ∧ fits m q.1 = true ∧ (q.2.1 + q.2.2 : Int) = n ∧ addC q.2.1 (rrunF m q.2.2 q.1) = r0) (fun q => q.2.2) [.mask [2, 3, 4, 6, 9]] (c, 0, n.toNat) ?_
    ⟨hc, hf, by simp only; omega, by simp only [hr0, addC]; cases r0 <;> simp⟩ ?_
  · rw [gh_maskP rfl]; simp only [go_sem, Nat.reduceSub, Nat.reduceAdd, Nat.reduceEqDiff, Nat.reduceBEq]; rfl
  rintro ⟨w, k, f⟩ ⟨hw, hfw, hk, hr⟩ Q1 hN1 hE1
  simp only at hw hfw hk hr
  have hww := (fits_within hfw).2
  have hst0 := hww.st0
  simp (maxSteps := 2000000) (disch := omega) only [go_sem, Nat.reduceSub, Nat.reduceAdd, Nat.reduceLT, Nat.reduceEqDiff, Nat.reduceBEq]
  refine Br.sp (fun h e => ?_) (fun h e => ?_) <;> simp (maxSteps := 2000000) (disch := omega) only [go_sem, Nat.reduceSub, Nat.reduceAdd, Nat.reduceLT, Nat.reduceEqDiff, Nat.reduceBEq, e]
  · refine Br.sp (fun h' e' => ?_) (fun h' e' => ?_) <;> simp (maxSteps := 2000000) (disch := omega) only [go_sem, Nat.reduceSub, Nat.reduceAdd, Nat.reduceLT, Nat.reduceEqDiff, Nat.reduceBEq, e']
    · have hsome : r0 = some (w, k) := by
        rw [← hr]; cases f with
        | zero => simp [rrunF, addC]
        | succ f => simp [rrunF, h', addC]
      refine hE1 _ _ _ (fun h => by cases h) ?_
      simp (maxSteps := 2000000) (disch := omega) only [go_sem, Nat.reduceSub, Nat.reduceAdd, Nat.reduceLT, Nat.reduceEqDiff, Nat.reduceBEq]
      refine hQ2 _ _ (Fin.sim [] [.re []] [.cell 6 27, .tmp 7, .tmp 8] rfl gh_nil ?_)
      simp (maxSteps := 2000000) (disch := omega) only [go_sem, Nat.reduceSub, Nat.reduceAdd, Nat.reduceLT, Nat.reduceEqDiff, Nat.reduceBEq]
      rw [gh_re rfl, hr0, hsome]; simp only [go_sem, Nat.reduceSub, Nat.reduceAdd, Nat.reduceEqDiff, Nat.reduceBEq, rrunOut, Conf.av]
    · obtain ⟨f, rfl⟩ : ∃ g, f = g + 1 := ⟨f - 1, by omega⟩
      have hrd := read_range hv hww w.pos
      have hstep := rstep_ret d m w hm hw hv hww (by omega) hrd.1 hrd.2
      refine call_imm hstep rfl rfl ?_
      rw [rrunF, if_neg h'] at hr
      have hs1 := rstepF_snd m w
      have hs2 := rstepF_ok hv hw hww (by omega)
      generalize rstepF m w = P at *
      obtain ⟨P1, P2⟩ := P
      cases P2 with
      | false =>
        simp (maxSteps := 2000000) (disch := omega) only [go_sem, Nat.reduceSub, Nat.reduceAdd, Nat.reduceLT, Nat.reduceEqDiff, Nat.reduceBEq, Conf.av]
        refine hE1 _ _ _ (fun h => by cases h) ?_
        refine hQ2 _ _ (Fin.sim [] [.re []] [.cell 6 27, .tmp 7, .tmp 8] rfl gh_nil ?_)
        simp (maxSteps := 2000000) (disch := omega) only [go_sem, Nat.reduceSub, Nat.reduceAdd, Nat.reduceLT, Nat.reduceEqDiff, Nat.reduceBEq]
        rw [gh_re rfl, hr0, ← hr]; simp only [go_sem, Nat.reduceSub, Nat.reduceAdd, Nat.reduceEqDiff, Nat.reduceBEq, rrunOut, addC, conf0, Conf.av]; rfl
      | true =>
        simp (maxSteps := 2000000) (disch := omega) only [go_sem, Nat.reduceSub, Nat.reduceAdd, Nat.reduceLT, Nat.reduceEqDiff, Nat.reduceBEq, Conf.av]
        refine hN1 _ _ ⟨[.mask [2, 3, 4, 6, 9]], (P1, k + 1, f), ?_, ⟨hs2, hs1 rfl, by simp only; omega, ?_⟩, Nat.lt_succ_self _⟩
        · rw [gh_maskP rfl]; simp only [go_sem, Nat.reduceSub, Nat.reduceAdd, Nat.reduceEqDiff, Nat.reduceBEq]; rfl
        · rw [← hr]; simp only
          cases rrunF m f P1 with
          | none => rfl
          | some r => simp only [addC]; congr 2; omega
  · have hsome : r0 = some (w, k) := by
      rw [← hr, show f = 0 from by omega]; simp [rrunF, addC]
    refine hE1 _ _ _ (fun h => by cases h) ?_
    simp (maxSteps := 2000000) (disch := omega) only [go_sem, Nat.reduceSub, Nat.reduceAdd, Nat.reduceLT, Nat.reduceEqDiff, Nat.reduceBEq]
    refine hQ2 _ _ (Fin.sim [] [.re []] [.cell 6 27, .tmp 7, .tmp 8] rfl gh_nil ?_)
    simp (maxSteps := 2000000) (disch := omega) only [go_sem, Nat.reduceSub, Nat.reduceAdd, Nat.reduceLT, Nat.reduceEqDiff, Nat.reduceBEq]
    rw [gh_re rfl, hr0, hsome]; simp only [go_sem, Nat.reduceSub, Nat.reduceAdd, Nat.reduceEqDiff, Nat.reduceBEq, rrunOut, Conf.av]
end Go.Proofs.Ytbleionbmdpmeaa
