/- Machines and configurations, as the evaluation meets them. -/
import Derived.Test.YtbleionbmdpmeaaT0
import Derived.Test.YtbleionbmdpmeaaT1
set_option linter.unusedVariables false
set_option linter.unusedSimpArgs false
namespace Go.Proofs.Ytbleionbmdpmeaa
open Go.Abs

def r0 : Rule := ⟨0, 0, 0⟩
def row0 : Lst Rule := ⟨.nil, []⟩
section
variable {n0 : Nat} {nd : Bool} {t : List AVal} {L : List Slot} {K : AVal → List Slot → Prop} {k : IntKind} {j : Int}

@[go_sem] theorem ix_rows {s : Lst (Lst Rule)} (h0 : 0 ≤ j) (h1 : j < s.l.length) : idxK 1 (.imm (rowsIV s)) (.imm (.int k j)) L K (un _) = K (.iptr (rowIV (s.at row0 j) :: s.rest (fun r => [rowIV r]) j)) L :=
  idxK_iv (c := fun r => [rowIV r]) (fun _ => rfl) h0 h1
@[go_sem] theorem ix_row {s : Lst Rule} (h0 : 0 ≤ j) (h1 : j < s.l.length) : idxK 3 (.imm (rowIV s)) (.imm (.int k j)) L K (un _) = K (.iptr (.int .i64 (s.at r0 j).wr :: .int .i64 (s.at r0 j).mv :: .int .i64 (s.at r0 j).nx :: s.rest Rule.cells j)) L :=
  idxK_iv (c := Rule.cells) (fun _ => rfl) h0 h1
@[go_sem] theorem ix_ints {s : Lst Int} (h0 : 0 ≤ j) (h1 : j < s.l.length) : idxK 1 (.imm (intsIV s)) (.imm (.int k j)) L K (un _) = K (.iptr (.int .i64 (s.at 0 j) :: s.rest (fun n => [.int .i64 n]) j)) L :=
  idxK_iv (c := fun n => [.int .i64 n]) (fun _ => rfl) h0 h1
@[go_sem] theorem ln_rows {s : Lst (Lst Rule)} : lenL (.imm (rowsIV s)) L K (un _) = K (.imm (.int .i64 s.l.length)) L := lenL_iv
@[go_sem] theorem ln_row {s : Lst Rule} : lenL (.imm (rowIV s)) L K (un _) = K (.imm (.int .i64 s.l.length)) L := lenL_iv
@[go_sem] theorem ln_ints {s : Lst Int} : lenL (.imm (intsIV s)) L K (un _) = K (.imm (.int .i64 s.l.length)) L := lenL_iv
end

theorem rows_len {m : Mach} (h : m.ok) (j : Int) : lenok (m.rs.at row0 j).l.length := by
  unfold Lst.at
  rw [List.getD_eq_getElem?_getD]
  cases hx : m.rs.l[j.toNat]? with
  | none => simp [row0, lenok]
  | some r => exact (h.rows r (List.mem_of_getElem? hx)).1

def wideAt (m : Mach) : Nat → Int → Int → Int
  | 0, _, n => n
  | f + 1, i, n => if i < m.rs.l.length ∧ n ≤ 1000 then wideAt m f (i + 1) (n + (m.rs.at row0 i).l.length) else n
def wide (m : Mach) (c : Conf) : Bool := decide (1000 < wideAt m m.rs.l.length 0 (m.rs.l.length + c.cs.l.length))

set_option maxRecDepth 10000 in
theorem wide_ret (d : Nat) (m : Mach) (c : Conf) (hm : m.ok) (hc : c.ok) : Ret Try.prog (d + 1) 15 [m.av, c.av] [] (.imm (.bool (wide m c))) [] := by
  have h1 := hm.len
  have h2 := hc.len
  unfold lenok at h1 h2
  refine Ret.mk Try.func15 rfl (of_decide_eq_true (by kernel_rfl)) (by rw [Try.ntmps15]; exact Nat.le_of_ble_eq_true rfl) ?_
  intro Q hQ1 hQ2
  rw [Try.ntmps15]
  refine Eq.mpr (congrFun (congrArg _ rfl) _) (?_ : awpW _ _ _ _ _ (un _))
  simp (disch := omega) only [go_sem, Mach.av, Conf.av, Nat.reduceSub, Nat.reduceAdd, Nat.reduceLT]
  refine awp_loopX (fun x : Int × Int => tm 35 0 [(2, .ptr 0 0), (3, .ptr 1 0), (5, .imm (.int .i64 x.2)), (6, .imm (.int .i64 x.1))])
    (fun _ => [.obj 0 [.imm (.int .i64 m.ns), .imm (.int .i64 m.ny), .imm (rowsIV m.rs)], .obj 0 [.imm (.int .i64 c.st), .imm (.int .i64 c.pos), .imm (.int .i64 c.fr), .imm (intsIV c.cs)]])
    (fun x => 0 ≤ x.1 ∧ x.1 ≤ m.rs.l.length ∧ 0 ≤ x.2 ∧ x.2 ≤ 281474976710656 ∧ wideAt m (m.rs.l.length - x.1.toNat) x.1 x.2 = wideAt m m.rs.l.length 0 (m.rs.l.length + c.cs.l.length))
    (fun x => m.rs.l.length - x.1.toNat) [.mask [2, 3, 5, 6]] (0, m.rs.l.length + c.cs.l.length) rfl ⟨by simp, by simp, by simp; omega, by simp; omega, by simp⟩ ?_
  rintro ⟨i, n⟩ ⟨hi0, hi1, hn0, hn1, hw⟩ Q' hN hE
  simp only at hi0 hi1 hn0 hn1 hw
  simp only [tm_cons, tm_nil, tm_zero, reduceIte, Nat.reduceAdd, Nat.reduceEqDiff]
  simp (disch := omega) only [go_sem, Nat.reduceSub, Nat.reduceAdd, Nat.reduceLT]
  refine Br.intro (fun h => ?_) (fun h => ?_) <;> simp (disch := omega) only [go_sem, Nat.reduceSub, Nat.reduceAdd, Nat.reduceLT, h]
  · obtain ⟨f, hf⟩ : ∃ f, m.rs.l.length - i.toNat = f + 1 := ⟨m.rs.l.length - i.toNat - 1, by omega⟩
    rw [hf, wideAt] at hw
    have hl := rows_len hm i
    unfold lenok at hl
    refine Br.intro (fun h' => ?_) (fun h' => ?_) <;> simp (disch := omega) only [go_sem, Nat.reduceSub, Nat.reduceAdd, Nat.reduceLT, h']
    · rw [if_pos ⟨h, h'⟩] at hw
      refine hN _ _ ⟨[.mask [2, 3, 5, 6]], (i + 1, n + (m.rs.at row0 i).l.length), rfl, ⟨by omega, by omega, by simp only; omega, by simp only; omega, ?_⟩, by simp only; omega⟩
      rw [← hw]; simp only; congr 1; omega
    · rw [if_neg (fun x => h' x.2)] at hw
      refine hE _ _ _ (fun h => by cases h) ?_
      simp (disch := omega) only [go_sem, Nat.reduceSub, Nat.reduceAdd, Nat.reduceLT]
      refine hQ2 _ _ (Fin.imm1 rfl (i := 4) ?_)
      simp only [go_sem, wide, ← hw]
  · have hw' : n = wideAt m m.rs.l.length 0 (m.rs.l.length + c.cs.l.length) := by
      rw [← hw, show m.rs.l.length - i.toNat = 0 from by omega]; rfl
    refine hE _ _ _ (fun h => by cases h) ?_
    simp (disch := omega) only [go_sem, Nat.reduceSub, Nat.reduceAdd, Nat.reduceLT]
    refine hQ2 _ _ (Fin.imm1 rfl (i := 4) ?_)
    simp only [go_sem, wide, ← hw']
end Go.Proofs.Ytbleionbmdpmeaa
