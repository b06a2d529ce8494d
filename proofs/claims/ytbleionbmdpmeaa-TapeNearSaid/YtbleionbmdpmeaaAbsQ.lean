/- Temporaries as a list of what was put into them: evaluation that goes through few of them. -/
import Derived.Test.YtbleionbmdpmeaaAbsP
set_option linter.unusedVariables false
set_option linter.unusedSimpArgs false
namespace Go.Abs

def lk (d : AVal) : List (Nat × AVal) → Nat → AVal
  | [], _ => d
  | (m, v) :: e, n => if m = n then v else lk d e n
def tmE (N : Nat) (d : AVal) (e : List (Nat × AVal)) : List AVal := (List.range N).map (lk d e)
def pick (d : AVal) (e : List (Nat × AVal)) : List Nat → List (Nat × AVal)
  | [] => []
  | k :: ks => (k, lk d e k) :: pick d e ks
def renE (σ : Nat → Option Nat) : List (Nat × AVal) → List (Nat × AVal)
  | [] => []
  | (m, v) :: e => (m, ren σ v) :: renE σ e
def frzE (s e : Nat) (c : List AVal) : List (Nat × AVal) → List (Nat × AVal)
  | [] => []
  | (m, v) :: l => (m, frzA s e c v) :: frzE s e c l
def srt (i : Nat) : List Nat → Bool
  | [] => true
  | k :: ks => decide (i ≤ k) && srt (k + 1) ks
def numE (i : Nat) : List AVal → List (Nat × AVal)
  | [] => []
  | a :: l => (i, a) :: numE (i + 1) l

section
variable {N : Nat} {d : AVal} {e : List (Nat × AVal)}
theorem lk_nil {n : Nat} : lk d [] n = d := nr rfl
def lkIf (b : Bool) (v d : AVal) (e : List (Nat × AVal)) (n : Nat) : AVal := match b with | true => v | false => lk d e n
theorem lkIf_true {n : Nat} {v : AVal} : lkIf true v d e n = v := nr rfl
theorem lkIf_false {n : Nat} {v : AVal} : lkIf false v d e n = lk d e n := nr rfl
theorem lk_cons {m n : Nat} {v : AVal} : lk d ((m, v) :: e) n = lkIf (m == n) v d e n := by
  simp only [lk, lkIf]; by_cases h : m = n
  · rw [if_pos h, show (m == n) = true from by simpa using h]
  · rw [if_neg h, show (m == n) = false from by simpa using h]
theorem tmE_get (i : Nat) : (tmE N d e)[i]? = if i < N then some (lk d e i) else none := by
  unfold tmE
  rw [List.getElem?_map]
  by_cases h : i < N
  · rw [if_pos h, List.getElem?_range h]; rfl
  · rw [if_neg h, List.getElem?_eq_none (by simp; omega)]; rfl
theorem tmE_length : (tmE N d e).length = N := by simp [tmE]
def inB (b : Bool) (v : AVal) : AVal := match b with | true => v | false => .any
theorem inB_true {v : AVal} : inB true v = v := nr rfl
theorem inB_false {v : AVal} : inB false v = .any := nr rfl
theorem getT_E {n : Nat} : getT (tmE N d e) n = inB (n + 1 - N == 0) (lk d e n) := by
  rw [getT_eq, List.getD_eq_getElem?_getD, tmE_get]
  by_cases h : n < N
  · rw [if_pos h, show (n + 1 - N == 0) = true from by simp; omega]; rfl
  · rw [if_neg h, show (n + 1 - N == 0) = false from by simp; omega]; rfl
theorem putT_E {n : Nat} {v : AVal} : putT (tmE N d e) n v = tmE N d ((n, v) :: e) := by
  rw [putT_eq]
  refine List.ext_getElem? (fun i => ?_)
  rw [List.getElem?_set, tmE_get, tmE_get, tmE_length, lk]
  by_cases h : n = i
  · subst h; rw [if_pos rfl, if_pos rfl]
  · rw [if_neg h, if_neg h]

theorem maskT_E : ∀ (t : List AVal) (i : Nat) (ks : List Nat), srt i ks = true → ∀ j, (maskT i ks t)[j]? = if j < t.length then (if ks.contains (i + j) = true then t[j]? else some .any) else none
  | [], i, ks, _, j => by simp [mk_nil]
  | a :: t, i, [], h, 0 => by simp [maskT]
  | a :: t, i, [], h, j + 1 => by
    rw [mk_none, List.getElem?_cons_succ, maskT_E t (i + 1) [] rfl j]
    simp only [List.contains_nil, Bool.false_eq_true, if_false, List.length_cons]
    by_cases hj : j < t.length
    · simp only [if_pos hj, if_pos (show j + 1 < t.length + 1 from by omega)]
    · simp only [if_neg hj, if_neg (show ¬ j + 1 < t.length + 1 from by omega)]
  | a :: t, i, k :: ks, h, 0 => by
    simp only [srt, Bool.and_eq_true, decide_eq_true_eq] at h
    rw [mk_some]
    by_cases hk : i = k
    · subst hk; simp
    · rw [if_neg hk]
      have : ∀ (ks : List Nat) (b : Nat), i < b → srt b ks = true → ks.contains i = false := by
        intro ks
        induction ks with
        | nil => intro b _ _; rfl
        | cons q ks ih =>
          intro b hb hs
          simp only [srt, Bool.and_eq_true, decide_eq_true_eq] at hs
          simp only [List.contains_cons, Bool.or_eq_false_iff]
          exact ⟨by simp; omega, ih (q + 1) (by omega) hs.2⟩
      simp only [List.getElem?_cons_zero, List.length_cons, Nat.zero_lt_succ, if_true, Nat.add_zero, List.contains_cons]
      rw [this ks (k + 1) (by omega) h.2, show (i == k) = false from by simpa using hk]
      simp
  | a :: t, i, k :: ks, h, j + 1 => by
    simp only [srt, Bool.and_eq_true, decide_eq_true_eq] at h
    rw [mk_some]
    have fin : ∀ (X : Option AVal), (if j < t.length then X else none) = if j + 1 < t.length + 1 then X else none := by
      intro X
      by_cases hj : j < t.length
      · rw [if_pos hj, if_pos (by omega)]
      · rw [if_neg hj, if_neg (by omega)]
    by_cases hk : i = k
    · subst hk
      rw [if_pos rfl, List.getElem?_cons_succ, maskT_E t (i + 1) ks h.2 j]
      simp only [List.length_cons, List.contains_cons, List.getElem?_cons_succ]
      rw [show (i + (j + 1) == i) = false from by simp, Bool.false_or, show i + (j + 1) = i + 1 + j from by omega]
      exact fin _
    · rw [if_neg hk, List.getElem?_cons_succ, maskT_E t (i + 1) (k :: ks) (by simp [srt, h.2]; omega) j]
      simp only [List.length_cons, List.getElem?_cons_succ, show i + (j + 1) = i + 1 + j from by omega]
      exact fin _

theorem lk_pick (n : Nat) : ∀ (ks : List Nat), lk .any (pick d e ks) n = if ks.contains n = true then lk d e n else .any
  | [] => by simp [pick, lk]
  | k :: ks => by
    simp only [pick, lk, List.contains_cons, Bool.or_eq_true, beq_iff_eq]
    by_cases h : k = n
    · subst h; simp
    · rw [if_neg h, lk_pick n ks]; simp [show ¬ n = k from fun q => h q.symm]

variable {k : Nat} {gs : List Gh} {L : List Slot}
theorem gh_maskE {ks : List Nat} (h : srt 0 ks = true) : ghosts k (.mask ks :: gs) (tmE N d e) L = ghosts k gs (tmE N .any (pick d e ks)) L := by
  rw [gh_mask]; congr 1
  refine List.ext_getElem? (fun i => ?_)
  rw [maskT_E _ _ _ h, tmE_length, tmE_get, tmE_get, lk_pick, Nat.zero_add]
  by_cases hi : i < N
  · simp only [if_pos hi]; split <;> rfl
  · simp only [if_neg hi]

theorem lk_renE (σ : Nat → Option Nat) (n : Nat) : ∀ e : List (Nat × AVal), lk (ren σ d) (renE σ e) n = ren σ (lk d e n)
  | [] => rfl
  | (m, v) :: e => by
    simp only [renE, lk]
    split
    · rfl
    · exact lk_renE σ n e
theorem rens_E {σ : Nat → Option Nat} : rens σ (tmE N .any e) = tmE N .any (renE σ e) := by
  refine List.ext_getElem? (fun i => ?_)
  rw [rens_get, tmE_get, tmE_get]
  have := lk_renE (d := .any) σ i e
  rw [ren_any] at this
  by_cases hi : i < N
  · simp only [if_pos hi, Option.map_some, this]
  · simp only [if_neg hi, Option.map_none]
theorem rens_Eu {σ : Nat → Option Nat} : rens σ (tmE N und e) = tmE N und (renE σ e) := by
  refine List.ext_getElem? (fun i => ?_)
  rw [rens_get, tmE_get, tmE_get]
  have h : ren σ und = und := by simp [und, ren_tup, rens_nil']
  have := lk_renE (d := und) σ i e
  rw [h] at this
  by_cases hi : i < N
  · simp only [if_pos hi, Option.map_some, this]
  · simp only [if_neg hi, Option.map_none]
theorem lk_frzE (s q : Nat) (c : List AVal) (n : Nat) : ∀ e : List (Nat × AVal), lk (frzA s q c d) (frzE s q c e) n = frzA s q c (lk d e n)
  | [] => rfl
  | (m, v) :: e => by
    simp only [frzE, lk]
    split
    · rfl
    · exact lk_frzE s q c n e
theorem frzAs_E {s q : Nat} {c : List AVal} : frzAs s q c (tmE N .any e) = tmE N .any (frzE s q c e) := by
  refine List.ext_getElem? (fun i => ?_)
  rw [frzAs_get, tmE_get, tmE_get]
  have := lk_frzE (d := .any) s q c i e
  rw [frzA_any] at this
  by_cases hi : i < N
  · simp only [if_pos hi, Option.map_some, this]
  · simp only [if_neg hi, Option.map_none]
theorem frzAs_Eu {s q : Nat} {c : List AVal} : frzAs s q c (tmE N und e) = tmE N und (frzE s q c e) := by
  refine List.ext_getElem? (fun i => ?_)
  rw [frzAs_get, tmE_get, tmE_get]
  have h : frzA s q c und = und := by simp [und, frzA_tup, frzAs_nil']
  have := lk_frzE (d := und) s q c i e
  rw [h] at this
  by_cases hi : i < N
  · simp only [if_pos hi, Option.map_some, this]
  · simp only [if_neg hi, Option.map_none]
theorem renE_nil {σ : Nat → Option Nat} : renE σ [] = [] := nr rfl
theorem renE_cons {σ : Nat → Option Nat} {m : Nat} {v : AVal} : renE σ ((m, v) :: e) = (m, ren σ v) :: renE σ e := nr rfl
theorem frzE_nil {s q : Nat} {c : List AVal} : frzE s q c [] = [] := nr rfl
theorem frzE_cons {s q : Nat} {c : List AVal} {m : Nat} {v : AVal} : frzE s q c ((m, v) :: e) = (m, frzA s q c v) :: frzE s q c e := nr rfl
theorem pick_nil : pick d e [] = [] := nr rfl
theorem pick_cons {q : Nat} {ks : List Nat} : pick d e (q :: ks) = (q, lk d e q) :: pick d e ks := nr rfl
theorem numE_nil {i : Nat} : numE i [] = [] := nr rfl
theorem numE_cons {i : Nat} {a : AVal} {l : List AVal} : numE i (a :: l) = (i, a) :: numE (i + 1) l := nr rfl

theorem lk_num (n : Nat) : ∀ (as : List AVal) (i : Nat), lk d (numE i as) n = if i ≤ n ∧ n < i + as.length then as.getD (n - i) d else d
  | [], i => by simp [numE, lk]
  | a :: as, i => by
    simp only [numE, lk, List.length_cons]
    by_cases h : i = n
    · subst h; rw [if_pos rfl, if_pos (by omega)]; simp
    · rw [if_neg h, lk_num n as (i + 1)]
      by_cases h2 : i + 1 ≤ n ∧ n < i + 1 + as.length
      · rw [if_pos h2, if_pos (by omega), show n - i = (n - (i + 1)) + 1 from by omega]; rfl
      · rw [if_neg h2, if_neg (by omega)]
theorem pad_get : ∀ (n i : Nat), (padT n)[i]? = if i < n then some und else none
  | 0, i => by simp [padT]
  | n + 1, 0 => by simp [padT]
  | n + 1, i + 1 => by simp only [padT, List.getElem?_cons_succ, pad_get n i, Nat.add_lt_add_iff_right]
theorem init_E {as : List AVal} {N : Nat} (h : as.length ≤ N) : as ++ padT (N - as.length) = tmE N und (numE 0 as) := by
  refine List.ext_getElem? (fun i => ?_)
  rw [List.getElem?_append, tmE_get, lk_num, pad_get]
  by_cases h1 : i < as.length
  · rw [if_pos h1, if_pos (by omega), if_pos (by omega), Nat.sub_zero, List.getD_eq_getElem?_getD, List.getElem?_eq_getElem h1]; rfl
  · rw [if_neg h1]
    by_cases h2 : i < N
    · rw [if_pos (by omega), if_pos h2, if_neg (by omega)]
    · rw [if_neg (by omega), if_neg h2]
end


/-! ### Some temporaries ahead of the others -/

def tmP (N : Nat) (d : AVal) (p e : List (Nat × AVal)) : List AVal := tmE N d (p ++ e)
def lkP (d : AVal) : List (Nat × AVal) → List (Nat × AVal) → Nat → AVal
  | [], e, n => lk d e n
  | (m, v) :: p, e, n => if m = n then v else lkP d p e n
def hasK : List (Nat × AVal) → Nat → Bool
  | [], _ => false
  | (m, _) :: p, n => m == n || hasK p n
def updK : List (Nat × AVal) → Nat → AVal → List (Nat × AVal)
  | [], _, _ => []
  | (m, w) :: p, n, v => if m = n then (m, v) :: p else (m, w) :: updK p n v
def putP (b : Bool) (N : Nat) (d : AVal) (p e : List (Nat × AVal)) (n : Nat) (v : AVal) : List AVal := match b with
  | true => tmP N d (updK p n v) e
  | false => tmP N d p ((n, v) :: e)
def pickP (d : AVal) (p e : List (Nat × AVal)) : List Nat → List (Nat × AVal)
  | [] => []
  | k :: ks => (k, lkP d p e k) :: pickP d p e ks
section
variable {N : Nat} {d : AVal} {p e : List (Nat × AVal)}
theorem lkP_eq (n : Nat) : ∀ p : List (Nat × AVal), lkP d p e n = lk d (p ++ e) n
  | [] => rfl
  | (m, v) :: p => by simp only [lkP, List.cons_append, lk, lkP_eq n p]
theorem lkP_nil {n : Nat} : lkP d [] e n = lk d e n := nr rfl
def lqIf (b : Bool) (v d : AVal) (p e : List (Nat × AVal)) (n : Nat) : AVal := match b with | true => v | false => lkP d p e n
theorem lqIf_true {n : Nat} {v : AVal} : lqIf true v d p e n = v := nr rfl
theorem lqIf_false {n : Nat} {v : AVal} : lqIf false v d p e n = lkP d p e n := nr rfl
theorem lkP_cons {m n : Nat} {v : AVal} : lkP d ((m, v) :: p) e n = lqIf (m == n) v d p e n := by
  simp only [lkP, lqIf]; by_cases h : m = n
  · rw [if_pos h, show (m == n) = true from by simpa using h]
  · rw [if_neg h, show (m == n) = false from by simpa using h]
theorem getT_P {n : Nat} : getT (tmP N d p e) n = inB (n + 1 - N == 0) (lkP d p e n) := by rw [tmP, getT_E, lkP_eq]
theorem lk_not (n : Nat) : ∀ p : List (Nat × AVal), hasK p n = false → lk d (p ++ e) n = lk d e n
  | [], _ => rfl
  | (m, v) :: p, h => by
    simp only [hasK, Bool.or_eq_false_iff, beq_eq_false_iff_ne] at h
    simp only [List.cons_append, lk, if_neg h.1, lk_not n p h.2]
theorem lk_upd (n : Nat) (v : AVal) (i : Nat) : ∀ p : List (Nat × AVal), hasK p n = true → lk d (updK p n v ++ e) i = if n = i then v else lk d (p ++ e) i
  | [], h => by simp [hasK] at h
  | (m, w) :: p, h => by
    simp only [updK]
    by_cases hm : m = n
    · subst hm; rw [if_pos rfl]
      simp only [List.cons_append, lk]
      split <;> rfl
    · rw [if_neg hm]
      simp only [hasK, Bool.or_eq_true, beq_iff_eq] at h
      have h' : hasK p n = true := by
        rcases h with h | h
        · exact (hm h).elim
        · exact h
      simp only [List.cons_append, lk, lk_upd n v i p h']
      by_cases h1 : m = i
      · subst h1; rw [if_pos rfl, if_neg (fun q => hm q.symm), if_pos rfl]
      · rw [if_neg h1, if_neg h1]
theorem tmE_congr {e e' : List (Nat × AVal)} (h : ∀ i, lk d e i = lk d e' i) : tmE N d e = tmE N d e' := by
  unfold tmE; congr 1; funext i; exact h i
theorem putT_P {n : Nat} {v : AVal} : putT (tmP N d p e) n v = putP (hasK p n) N d p e n v := by
  rw [tmP, putT_E]
  cases h : hasK p n with
  | true =>
    simp only [putP, tmP]
    exact tmE_congr (fun i => by rw [lk_upd n v i p h, lk])
  | false =>
    simp only [putP, tmP]
    refine tmE_congr (fun i => ?_)
    rw [lk]
    by_cases hi : n = i
    · subst hi; rw [if_pos rfl, lk_not n p h, lk, if_pos rfl]
    · rw [if_neg hi]
      have : ∀ p : List (Nat × AVal), lk d (p ++ e) i = lk d (p ++ (n, v) :: e) i := by
        intro p
        induction p with
        | nil => simp only [List.nil_append, lk, if_neg hi]
        | cons a p ih => obtain ⟨m, w⟩ := a; simp only [List.cons_append, lk, ih]
      exact this p
theorem putP_true {n : Nat} {v : AVal} : putP true N d p e n v = tmP N d (updK p n v) e := nr rfl
theorem putP_false {n : Nat} {v : AVal} : putP false N d p e n v = tmP N d p ((n, v) :: e) := nr rfl
theorem hasK_nil {n : Nat} : hasK [] n = false := nr rfl
theorem hasK_cons {m n : Nat} {v : AVal} : hasK ((m, v) :: p) n = (m == n || hasK p n) := nr rfl
theorem updK_nil {n : Nat} {v : AVal} : updK [] n v = [] := nr rfl
theorem updK_cons {m n : Nat} {v w : AVal} : updK ((m, w) :: p) n v = if m = n then (m, v) :: p else (m, w) :: updK p n v := nr rfl
theorem pickP_nil : pickP d p e [] = [] := nr rfl
theorem pickP_cons {q : Nat} {ks : List Nat} : pickP d p e (q :: ks) = (q, lkP d p e q) :: pickP d p e ks := nr rfl
theorem pickP_eq : ∀ ks : List Nat, pickP d p e ks = pick d (p ++ e) ks
  | [] => rfl
  | k :: ks => by simp only [pickP, pick, lkP_eq, pickP_eq ks]
variable {k : Nat} {gs : List Gh} {L : List Slot}
theorem gh_maskP {ks : List Nat} (h : srt 0 ks = true) : ghosts k (.mask ks :: gs) (tmP N d p e) L = ghosts k gs (tmP N .any (pickP d p e ks) []) L := by
  rw [tmP, gh_maskE h, tmP, List.append_nil, pickP_eq]
theorem renE_app {σ : Nat → Option Nat} : ∀ p : List (Nat × AVal), renE σ (p ++ e) = renE σ p ++ renE σ e
  | [] => rfl
  | (m, v) :: p => by simp only [List.cons_append, renE, renE_app p]
theorem frzE_app {s q : Nat} {c : List AVal} : ∀ p : List (Nat × AVal), frzE s q c (p ++ e) = frzE s q c p ++ frzE s q c e
  | [] => rfl
  | (m, v) :: p => by simp only [List.cons_append, frzE, frzE_app p]
theorem rens_P {σ : Nat → Option Nat} : rens σ (tmP N .any p e) = tmP N .any (renE σ p) (renE σ e) := by rw [tmP, rens_E, renE_app, tmP]
theorem rens_Pu {σ : Nat → Option Nat} : rens σ (tmP N und p e) = tmP N und (renE σ p) (renE σ e) := by rw [tmP, rens_Eu, renE_app, tmP]
theorem frzAs_P {s q : Nat} {c : List AVal} : frzAs s q c (tmP N .any p e) = tmP N .any (frzE s q c p) (frzE s q c e) := by rw [tmP, frzAs_E, frzE_app, tmP]
theorem frzAs_Pu {s q : Nat} {c : List AVal} : frzAs s q c (tmP N und p e) = tmP N und (frzE s q c p) (frzE s q c e) := by rw [tmP, frzAs_Eu, frzE_app, tmP]
end

theorem Ret.mkE {P : Program} {d f N : Nat} {as : List AVal} {Lin : List Slot} {r : AVal} {out : List Slot} {fn : Func} {code : Code} (hf : P.funcs[f]? = some fn) (hb : fn.body = some code) (hn : fn.name ≠ "runtime.NumGoroutine") (hN : fn.ntmps = N) (hl : Nat.ble as.length N = true)
    (h : ∀ Q : AExit → List AVal → List Slot → Prop, (∀ t L, Fin P fn Lin.length r out t L → Q .normal t L) → (∀ t L, Fin P fn Lin.length r out t L → Q .ret t L) → awpW ⟨P, Ret P d, Lin.length⟩ code (tmP N und (numE 0 as) []) Lin Q (un _)) : Ret P (d + 1) f as Lin r out := by
  have hl' : as.length ≤ N := Nat.le_of_ble_eq_true hl
  subst hN
  refine Ret.mk hf hb hn hl' (fun Q h1 h2 => ?_)
  rw [init_E hl']
  have := h Q h1 h2
  rwa [tmP, List.append_nil] at this

/-- One result, that is one value; nothing made is given back. -/
theorem Fin.imm1E {P : Program} {t : List AVal} {L : List Slot} {fn : Func} {i : Nat} {v : IVal} (hr : fn.results.toList = [.tmp i]) (h : getT t i = .imm v) : Fin P fn 0 (.imm v) [] t L := Fin.imm1 hr h

attribute [go_sem] lkIf_true lkIf_false lqIf_true lqIf_false inB_true inB_false lk_nil lk_cons getT_E putT_E renE_nil renE_cons frzE_nil frzE_cons pick_nil pick_cons numE_nil numE_cons rens_E rens_Eu frzAs_E frzAs_Eu lkP_nil lkP_cons getT_P putT_P putP_true putP_false hasK_nil hasK_cons updK_nil updK_cons pickP_nil pickP_cons rens_P rens_Pu frzAs_P frzAs_Pu
end Go.Abs
