/- Lists of numbers in slots. -/
import Derived.Test.YtbleionbmdpmeaaT9
set_option linter.unusedVariables false
set_option linter.unusedSimpArgs false
namespace Go.Proofs.Ytbleionbmdpmeaa
open Go.Abs

/-- cells of numbers -/
def iv (l : List Int) : List AVal := l.map fun n => .imm (.int .i64 n)
theorem iv_length (l : List Int) : (iv l).length = l.length := by simp [iv]
theorem iv_app (a b : List Int) : iv a ++ iv b = iv (a ++ b) := by simp [iv]
theorem iv_drop (l : List Int) (n : Nat) : (iv l).drop n = iv (l.drop n) := by simp [iv, List.map_drop]
theorem iv_take (l : List Int) (n : Nat) : (iv l).take n = iv (l.take n) := by simp [iv, List.map_take]
theorem iv_get (l : List Int) (n : Nat) (h : n < l.length) : getT (iv l) n = .imm (.int .i64 (l.getD n 0)) := by
  rw [getT_eq]; simp [iv, List.getD_eq_getElem?_getD, h]
theorem iv_one (n : Int) : [.imm (.int .i64 n)] = iv [n] := rfl
theorem iv_nil : iv [] = [] := rfl
theorem iv_set (l : List Int) (o : Nat) (v : Int) : spl (iv l) o [.imm (.int .i64 v)] = iv (l.set o v) := by
  simp only [spl, putT_eq, iv, List.map_set]
theorem iv_rens (σ : Nat → Option Nat) : ∀ l : List Int, rens σ (iv l) = iv l
  | [] => rfl
  | n :: l => by simp only [iv, List.map_cons, rens, ren]; rw [show List.map _ l = iv l from rfl, iv_rens σ l]
theorem iv_imms : ∀ l : List Int, immsOf (iv l) = some (l.map fun n => .int .i64 n)
  | [] => rfl
  | n :: l => by simp only [iv, List.map_cons, immsOf, immOf]; rw [show List.map _ l = iv l from rfl, iv_imms l]
theorem iv_solid (L : List Slot) : ∀ l : List Int, (iv l).all (solid L) = true
  | [] => rfl
  | n :: l => by simp only [iv, List.map_cons, List.all_cons, solid, Bool.true_and]; exact iv_solid L l
theorem iv_zeros (n : Nat) : (List.replicate n [AVal.imm (.int .i64 0)]).flatten = iv (List.replicate n 0) := by
  induction n with
  | zero => rfl
  | succ n ih => simp only [List.replicate_succ, List.flatten_cons, ih]; rfl
theorem iv_plain : ∀ l : List Int, plainAs (iv l) = true
  | [] => rfl
  | n :: l => by simp only [iv, List.map_cons, plainAs, plainA, plainI, Bool.true_and]; exact iv_plain l

/-- seen as a slice that is only read -/
theorem iv_view (l : List Int) (off n : Nat) (h : l ≠ []) (hn : off + n ≤ l.length) : viewC 1 (iv l) off n = some (.imm (intsIV ⟨.full, (l.drop off).take n⟩)) := by
  cases l with
  | nil => exact (h rfl).elim
  | cons x l =>
    have e : iv (x :: l) = .imm (.int .i64 x) :: iv l := rfl
    rw [e]; simp only [viewC]; rw [← e, Nat.mul_one, iv_drop, iv_take, iv_imms]
    have hl : ((x :: l).drop off |>.take n).length = n := by simp at hn ⊢; omega
    simp only [intsIV, Lst.iv, hl]
    congr 3
    induction ((x :: l).drop off |>.take n) with
    | nil => rfl
    | cons y r ih => simp only [List.map_cons, List.flatMap_cons, ih]; rfl
theorem iv_view0 (off n : Nat) : viewC 1 (iv []) off n = some (.imm (intsIV ⟨.void, []⟩)) := rfl
end Go.Proofs.Ytbleionbmdpmeaa
