/- The row of TapeNear, out of what its function comes to. -/
import Derived.Test.YtbleionbmdpmeaaRows
import Derived.Test.YtbleionbmdpmeaaT60
import Derived.ProofKit
import Derived.OpenShut
import Derived.ChangeOld
import Derived.Below
import Derived.SizedLaws
set_option linter.unusedVariables false
namespace Go.Proofs.Ytbleionbmdpmeaa.TapeNear
open Go.ChangeShapes Go.WideShapes Go.ChangeAt Go.RowKit Go.Abs
theorem own : ownKnob Try.prog.godebug = none := by kernel_rfl
theorem laidOut : laidOutB Try.prog = true := by kernel_rfl

/-- What is to be shown of the function. -/
def Comes : Prop := ∀ (m0 : Mach) (c1 : Conf) (c2 : Conf) (n3 : Int), m0.ok → c1.ok → c2.ok → u16ok n3 → ∃ d, Ret Try.prog d 6 [m0.av, c1.av, c2.av, .imm (.int .u16 n3)] [] (.imm (.bool true)) []

set_option maxRecDepth 100000 in
theorem lifted (K : Comes) (os : Os) (started : os.Started) (H : Type) (enc : TypeId × Value → H) :
    ReturnsInHanded {} Try.checked os 6 .any (Rows.tapeNearSpec.pre6 enc Try.prog Try.f6 Rows.tapeNearRow.domain false) (Rows.tapeNearSpec.post enc Try.prog Try.f6 false true false false) := by
  refine returnsInHanded_of_change_sized (C := Try.checked) own started (by kernel_rfl) Try.func6
    (ChangeSpec.witness6 (enc := enc) (C := Try.checked) false ⟨#[], #[.agg #[.int .i64 0, .int .i64 0, .slice none 0 0], .agg #[.int .i64 0, .int .i64 0, .int .i64 0, .slice none 0 0], .agg #[.int .i64 0, .int .i64 0, .int .i64 0, .slice none 0 0], .int .u16 0], []⟩ 8 (by kernel_rfl) (by kernel_rfl) (by kernel_rfl) (by kernel_rfl)) ?_
  intro W base args ds gs before hval0 hW hcnd hsz0 _
  have hsz : (DataW.weightsEach Try.prog (Try.f6.params.toList ++ Rows.tapeNearSpec.plain.varTypes Try.prog) (ds ++ gs)).all (· ≤ reachBytes) = true := hsz0
  have hval : ∀ (j : Nat) t v, Try.f6.params[j]? = some t → args[j]? = some v → Value.okWide Try.prog W .any base t v := hval0
  have hW' := hW
  obtain ⟨p, q, hA0, hV, rfl, hfz, hnd⟩ := hW
  have hA : DataW.TrodAll enc Try.prog W 0 (fun _ => true) true Try.f6.params.toList args.toList ds p := hA0
  rw [Try.params6] at hA hval hsz
  obtain ⟨v0, vs0, d0, d0s, p0, q0, hargs, rfl, rfl, h0, r0⟩ := trodAll_cons hA
  obtain ⟨v1, vs1, d1, d1s, p1, q1, rfl, rfl, rfl, h1, r1⟩ := trodAll_cons r0
  obtain ⟨v2, vs2, d2, d2s, p2, q2, rfl, rfl, rfl, h2, r2⟩ := trodAll_cons r1
  obtain ⟨v3, vs3, d3, d3s, p3, q3, rfl, rfl, rfl, h3, r3⟩ := trodAll_cons r2
  obtain ⟨rfl, rfl, rfl⟩ := trodAll_nil r3
  obtain rfl : args = #[v0, v1, v2, v3] := by cases args; simp_all
  obtain ⟨rfl, rfl⟩ := trodVars_none hV
  have lt0 : ∀ x ∈ p0, x.block < W.heap.size := by obtain ⟨m, hm⟩ := h0; exact DataW.trod_lt m _ _ _ hm
  have lt1 : ∀ x ∈ p1, x.block < W.heap.size := by obtain ⟨m, hm⟩ := h1; exact DataW.trod_lt m _ _ _ hm
  have lt2 : ∀ x ∈ p2, x.block < W.heap.size := by obtain ⟨m, hm⟩ := h2; exact DataW.trod_lt m _ _ _ hm
  have lt3 : ∀ x ∈ p3, x.block < W.heap.size := by obtain ⟨m, hm⟩ := h3; exact DataW.trod_lt m _ _ _ hm
  obtain ⟨m0, e0, g0⟩ := opens_mach.agg Try.underlying24 (hval 0 24 v0 rfl rfl) h0 (weightsEach_get hsz (j := 0) rfl rfl) (fun _ => ⟨0, 0, 0⟩) (getS [])
  obtain ⟨c1, e1, g1⟩ := opens_conf.agg Try.underlying27 (hval 1 27 v1 rfl rfl) h1 (weightsEach_get hsz (j := 1) rfl rfl) (fun _ => ⟨0, 0, 0⟩) (getS [])
  obtain ⟨c2, e2, g2⟩ := opens_conf.agg Try.underlying27 (hval 2 27 v2 rfl rfl) h2 (weightsEach_get hsz (j := 2) rfl rfl) (fun _ => ⟨0, 0, 0⟩) (getS [])
  obtain ⟨u3, hu3⟩ := okWide_int Try.underlying52 (hval 3 52 v3 rfl rfl)
  obtain ⟨n3, e3, g3⟩ := opens_u16.one (fun cs h => by rw [hu3] at h; cases h) h3 (weightsEach_get hsz (j := 3) rfl rfl) (fun _ => ⟨0, 0, 0⟩) (getS [])
  obtain ⟨d, hd⟩ := K m0 c1 c2 n3 g0 g1 g2 g3
  clear hA0 hval0 hsz0 hsz
  refine (law_calls mixed hd (cas := #[v0, v1, v2, v3]) (w := W) ⟨rfl, fun i b hi => ?_⟩).mono fun e W' ⟨he, bel⟩ => ?_
  · match i, hi with
    | 0, hi => cases hi; exact e0
    | 1, hi => cases hi; exact e1
    | 2, hi => cases hi; exact e2
    | 3, hi => cases hi; exact e3
    | n + 4, hi => simp at hi
  · subst he
    exact ⟨_, rfl, _, _, _, [], _, [], hW', trodAll_mk1 (shut_bool Try.underlying4 _), (trodAll_cons_mk (Below.trod laidOut (by kernel_rfl) (of_decide_eq_true (by kernel_rfl)) h0 bel lt0) (trodAll_cons_mk (Below.trod laidOut (by kernel_rfl) (of_decide_eq_true (by kernel_rfl)) h1 bel lt1) (trodAll_cons_mk (Below.trod laidOut (by kernel_rfl) (of_decide_eq_true (by kernel_rfl)) h2 bel lt2) (trodAll_cons_mk (Below.trod laidOut (by kernel_rfl) (of_decide_eq_true (by kernel_rfl)) h3 bel lt3) trodAll_mk0)))), rfl, bel.frame _, fun h => by cases h⟩

theorem over (K : Comes) : Rows.tapeNearRow.holds Try.pinned (OpenSpec.ofChange Rows.tapeNearSpec) :=
  OpenClaim.holds_of_wide 6 Try.f6 rfl rfl rfl rfl rfl rfl rfl ⟨rfl, rfl, rfl, rfl, rfl⟩ rfl rfl rfl rfl rfl (by kernel_rfl) Try.func6 (by kernel_rfl)
    (of_decide_eq_true (by kernel_rfl)) (by unfold Func.isWrapper; first | (rw [if_pos (by decide +kernel)]; kernel_rfl) | (rw [if_neg (by decide +kernel)]; exact ⟨rfl, rfl⟩))
    (fun os started H enc _ => lifted K os started H enc)
theorem said (K : Comes) : Rows.TapeNearSaid := over K
end Go.Proofs.Ytbleionbmdpmeaa.TapeNear
