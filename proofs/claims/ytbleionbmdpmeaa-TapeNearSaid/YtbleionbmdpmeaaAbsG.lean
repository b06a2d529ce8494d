/- All operations but calls of Go functions. -/
import Derived.Test.YtbleionbmdpmeaaAbsF
set_option linter.unusedVariables false
set_option linter.unusedSimpArgs false
namespace Go.Abs
section
variable {M : Mem} {π : Plc} {l : Sl} {L : List Slot} {C : Ctx} {w : World} {P : Program}

theorem foldI_sound {η : Operand → Value} {ρ : Operand → AVal} (hρ : ∀ x, VR M π l (ρ x) (η x)) (f2 : Value → Value → Sem Value) (g : Int → Int → Int) (k : IntKind)
    (hf : ∀ a b w1, (f2 (.int k a) (.int k b)).run P w1 = .ok (.int k (g a b)) w1) : ∀ (xs : List Operand) (a m : Int), foldI g k a (mapO ρ xs) = some m →
    ((xs.map η).foldlM f2 (.int k a)).run P w = .ok (.int k m) w
  | [], a, m, h => by simp [mapO, foldI] at h; subst h; rfl
  | x :: xs, a, m, h => by
    simp only [mapO] at h
    have hx := hρ x
    cases hr : ρ x with
    | imm i =>
      rw [hr] at h hx
      cases i <;> simp only [foldI, reduceCtorEq] at h
      rename_i k' b
      split at h <;> try (cases h; done)
      rename_i hk; subst hk
      have e : η x = .int k b := by generalize η x = q at hx; cases hx with | imm hx => cases hx; rfl
      simp only [List.map_cons, List.foldlM_cons, Sem.run_bind, e, hf, Result.andThen_ok]
      exact foldI_sound hρ f2 g k hf xs _ m h
    | _ => rw [hr] at h; simp [foldI] at h

theorem run_builtin {η : Operand → Value} {o : Oper} {b : Builtin} {args : Array Operand} {at_ : Array TypeId} (ho : o.op = .call ⟨.builtin b, args, at_⟩) :
    (execOp η o).run P w = (builtin b at_ o.type (args.map fun | .const _ => true | _ => false) (args.map η)).run P w := by
  simp only [execOp, ho, resolve, invoke, Sem.run_bind, Sem.run_pure, Result.andThen_ok]
  rfl

theorem lift_val {s : Sem Value} {cv : Value} {w' : World} (h : s.run P w = .ok cv w') : (do pure (.value (← s)) : Sem Next).run P w = .ok (.value cv) w' := by
  rw [Sem.run_bind, h]; rfl

theorem copy_run {dT sT ty e : TypeId} {i : TypeInfo} (hu : P.underlying dT = some (.slice e)) (hi : P.info? e = some i) {a : Option Addr} {n cap m : Nat} {x : Value} {vals : Array Value} {w' : World}
    (hl : (Builtin.lenOf x).run P w = .ok m w) (hc : (Builtin.firstCells i.size (min m n) x).run P w = .ok vals w) (hst : ∀ b, a = some b → (storeCells b vals.toList).run P w = .ok () w') (hno : a = none → w' = w) :
    (Builtin.copy_ #[dT, sT] ty #[.slice a n cap, x]).run P w = .ok (goInt (min m n : Nat)) w' := by
  unfold Builtin.copy_
  simp only [List.getElem?_toArray, List.getElem?_cons_zero, List.getElem?_cons_succ, Sem.run_bind, run_underlying hu, Result.andThen_ok, hl, run_sizeOf w hi, sz_info hi, Sem.run_pure]
  rw [show Nat.min m n = min m n from rfl, hc]
  simp only [Result.andThen_ok]
  cases a with
  | none => rw [hno rfl]; rfl
  | some b => simp only [Sem.run_bind, hst b rfl, Result.andThen_ok, Sem.run_pure]

theorem cnt_ref {x : AVal} {m : Nat} (h : cntA x = some m) : ∀ s o n, x = .ref s o n → m = n := by
  intro s o n hx; subst hx; simp [cntA] at h; exact h.symm

theorem src_live {esz n : Nat} {x : AVal} {p : Prop} {new : List AVal} (h : srcA L esz n x = some (p, new)) (hp : p) : ∀ s o n', x = .ref s o n' → liveB L s = true := by
  intro s o n' hx; subst hx
  simp only [srcA, Option.some.injEq, Prod.mk.injEq] at h
  rw [← h.1] at hp; exact hp.1

theorem two {xs : Array Operand} {a b : Operand} (h : xs.toList = [a, b]) : xs = #[a, b] := by
  have := congrArg List.toArray h; simpa using this

theorem call_sound {ρ : Operand → AVal} {η : Operand → Value} (hρ : ∀ x, VR M π l (ρ x) (η x)) (R : MemR C M π l w) (S : Sub L l) (hk : C.k ≤ L.length) {o : Oper} {c : Call} (ho : o.op = .call c) {p : Prop} {v : AVal} {L' : List Slot}
    (h : wv P ρ L (.call c) = some (p, v, L')) (hp : p) (hf : ∀ i, L.length ≤ i → i < L'.length → l i = .hole) : Eff P C M π l L w η o v L' := by
  obtain ⟨callee, args, at_⟩ := c
  cases callee with
  | value f => simp [wv] at h
  | invoke r s => simp [wv] at h
  | builtin b =>
  have hrun := run_builtin (P := P) (w := w) (η := η) ho
  cases b with
  | len =>
    simp only [wv] at h
    split at h <;> try (cases h; done)
    rename_i x t hx ht
    cases hl : lenA P t L (ρ x) with
    | none => rw [hl] at h; cases h
    | some r =>
      obtain ⟨q, u⟩ := r
      rw [hl] at h
      simp only [Option.map_some, Option.some.injEq, Prod.mk.injEq] at h
      obtain ⟨rfl, rfl, rfl⟩ := h
      obtain ⟨cv, h1, h2⟩ := lenA_sound (w := w) (ty := o.type) S (hρ x) hl hp
      have ea : args.map η = #[η x] := by have : args = #[x] := by have := congrArg List.toArray hx; simpa using this
                                          subst this; simp
      have et : at_ = #[t] := by have := congrArg List.toArray ht; simpa using this
      refine ⟨.value cv, w, π, l, cv, ?_, .inl rfl, Mrg.refl S, R, Step.refl _ _, h2⟩
      rw [hrun, ea, et]; exact lift_val h1
  | max =>
    simp only [wv] at h
    cases hx : args.toList with
    | nil => rw [hx] at h; simp [mapO] at h
    | cons x xs =>
      rw [hx] at h
      simp only [mapO] at h
      split at h <;> try (cases h; done)
      rename_i k a ys hy
      simp only [List.cons.injEq] at hy
      obtain ⟨hy1, rfl⟩ := hy
      split at h <;> cases h
      rename_i m hm
      have hvx := hρ x
      rw [hy1] at hvx
      have e : η x = .int k a := by generalize η x = q at hvx; cases hvx with | imm hvx => cases hvx; rfl
      have hfold := foldI_sound (P := P) (w := w) hρ Builtin.max2 max k (fun a b w1 => by
        simp only [Builtin.max2, Sem.run_pure]; congr 2
        by_cases hab : b > a
        · rw [if_pos hab, Int.max_eq_right (by omega)]
        · rw [if_neg hab, Int.max_eq_left (by omega)]) xs a m hm
      refine ⟨.value (.int k m), w, π, l, .int k m, ?_, .inl rfl, Mrg.refl S, R, Step.refl _ _, .imm (.int _ _)⟩
      rw [hrun]
      refine lift_val ?_
      simp only [Builtin.max_, Array.toList_map, hx, List.map_cons, e]
      exact hfold
  | min =>
    simp only [wv] at h
    cases hx : args.toList with
    | nil => rw [hx] at h; simp [mapO] at h
    | cons x xs =>
      rw [hx] at h
      simp only [mapO] at h
      split at h <;> try (cases h; done)
      rename_i k a ys hy
      simp only [List.cons.injEq] at hy
      obtain ⟨hy1, rfl⟩ := hy
      split at h <;> cases h
      rename_i m hm
      have hvx := hρ x
      rw [hy1] at hvx
      have e : η x = .int k a := by generalize η x = q at hvx; cases hvx with | imm hvx => cases hvx; rfl
      have hfold := foldI_sound (P := P) (w := w) hρ Builtin.min2 min k (fun a b w1 => by
        simp only [Builtin.min2, Sem.run_pure]; congr 2
        by_cases hab : b < a
        · rw [if_pos hab, Int.min_eq_right (by omega)]
        · rw [if_neg hab, Int.min_eq_left (by omega)]) xs a m hm
      refine ⟨.value (.int k m), w, π, l, .int k m, ?_, .inl rfl, Mrg.refl S, R, Step.refl _ _, .imm (.int _ _)⟩
      rw [hrun]
      refine lift_val ?_
      simp only [Builtin.min_, Array.toList_map, hx, List.map_cons, e]
      exact hfold
  | append =>
    simp only [wv] at h
    split at h <;> try (cases h; done)
    rename_i bx x tb tx hx ht
    have ea := two hx
    have et : at_ = #[tb, tx] := by have := congrArg List.toArray ht; simpa using this
    subst ea et
    split at h <;> try (cases h; done)
    rename_i esz eb ez u hkd
    obtain ⟨e, i, hu, hinfo, hsz, hby, hz, hzl⟩ := kind_slice hkd
    obtain ⟨i', z, hi', hz', hzr⟩ := zeros_rel (M := M) (π := π) (l := l) hz
    rw [hinfo] at hi'; injection hi' with hi'; subst hi'
    have hzsz : z.cells.size = esz := by rw [← hzr.1]; simp [hzl]
    split at h
    · rename_i hint
      split at h <;> try (cases h; done)
      rename_i k' m hxm
      have hvx := hρ x
      rw [hxm] at hvx
      have exv : η x = .int k' m := by generalize η x = q at hvx; cases hvx with | imm hvx => cases hvx; rfl
      have : ∃ k, (tiOf P tx).kind = .int k := by cases hk' : (tiOf P tx).kind <;> simp [hk', isInt] at hint; exact ⟨_, rfl⟩
      obtain ⟨k, hk'⟩ := this
      have hux := kind_int hk'
      cases ha : appendA L esz eb (ρ bx) m.toNat ((List.replicate m.toNat (ez.map AVal.imm)).flatten) with
      | none => rw [ha] at h; cases h
      | some r =>
        obtain ⟨q, v', L1⟩ := r
        rw [ha] at h
        simp only [Option.map_some, Option.some.injEq, Prod.mk.injEq] at h
        obtain ⟨rfl, rfl, rfl⟩ := h
        obtain ⟨⟨hm0, hm1⟩, hq⟩ := hp
        obtain ⟨n, rfl⟩ := Int.eq_ofNat_of_zero_le hm0
        simp only [Int.toNat_natCast] at ha hm1
        have hmn : n ≤ most := by omega
        have hby' : eb ≤ 100 := by
          unfold appendA at ha
          split at ha <;> cases ha
          · exact hq.2.1
          · exact hq.2.1
          · exact hq.2.1.2.1
        have hlen' : L1.length = L.length + 1 := by
          unfold appendA at ha
          split at ha <;> cases ha <;> simp [setS_length]
        have hm := made_rel hzr n
        rw [hzsz] at hm
        have hr : AppRun w e esz n z.cells (madeCells z.cells (n * esz)) P (fun cb => (Builtin.append_ #[tb, tx] o.type #[cb, .int k' n]).run P w) := by
          subst hsz
          refine ⟨fun a n1 cap w' hroom hst hno => ?_, fun a n1 cap olds hroom ho hm1 => ?_⟩
          · exact run_app_room_zero hu hinfo hz' hzsz hux hroom hmn (by rw [hby]; exact hby') hst hno
          · exact ⟨_, grownCap_ge _ _ _ _, run_app_grow_zero hu hinfo hz' hzsz hux hroom ho hm1 (by rw [hby]; exact hby')⟩
        obtain ⟨cv, w', π', l', g1, g2, g3, g4, g5⟩ := appendA_sound R S hk (hf _ (Nat.le_refl _) (by omega)) hr hzsz (hρ bx) hm (by rw [rep_length]; simp [hzl]) ha hq
        refine ⟨.value cv, w', π', l', cv, ?_, .inl rfl, g2, g3, g4, g5⟩
        rw [hrun]
        refine lift_val ?_
        simp only [List.map_toArray, List.map_cons, List.map_nil, exv]
        exact g1
    · rename_i hint
      split at h <;> try (cases h; done)
      rename_i hks
      split at h <;> try (cases h; done)
      rename_i m hcnt
      split at h <;> try (cases h; done)
      rename_i q new hsrc
      have hux : (∃ e', P.underlying tx = some (.slice e')) ∨ P.underlying tx = some .string := by
        rcases Bool.or_eq_true_iff.1 hks with h1 | h1
        · obtain ⟨_, _, _, _, h2⟩ := isSliceK_iff h1
          obtain ⟨e', _, h3, _⟩ := kind_slice h2
          exact .inl ⟨e', h3⟩
        · exact .inr (kind_str (isStrK_iff h1))
      cases ha : appendA L esz eb (ρ bx) m new with
      | none => rw [ha] at h; cases h
      | some r =>
        obtain ⟨q', v', L1⟩ := r
        rw [ha] at h
        simp only [Option.map_some, Option.some.injEq, Prod.mk.injEq] at h
        obtain ⟨rfl, rfl, rfl⟩ := h
        obtain ⟨hq, hq'⟩ := hp
        have hby' : eb ≤ 100 ∧ 0 < esz := by
          unfold appendA at ha
          split at ha <;> cases ha
          · exact hq'.2
          · exact hq'.2
          · exact hq'.2.1.2
        have hlen' : L1.length = L.length + 1 := by
          unfold appendA at ha
          split at ha <;> cases ha <;> simp [setS_length]
        obtain ⟨s1, vals, s2, s3⟩ := src_sound (P := P) R S hby'.2 (hρ x) hsrc hq (fun s o n hh => by rw [cnt_ref hcnt s o n hh]; exact Nat.le_refl _)
        have hlenx := cnt_sound (P := P) S (hρ x) hcnt (src_live hsrc hq)
        have hr : AppRun w e esz m z.cells vals P (fun cb => (Builtin.append_ #[tb, tx] o.type #[cb, η x]).run P w) := by
          subst hsz
          refine ⟨fun a n1 cap w' hroom hst hno => ?_, fun a n1 cap olds hroom ho hm1 => ?_⟩
          · exact run_app_room hu hinfo hux hroom (hlenx w) (s3 w rfl) hst hno
          · exact ⟨_, grownCap_ge _ _ _ _, run_app_grow hu hinfo hz' hux hroom (hlenx w) (s3 w.drew rfl) ho hm1 (by rw [hby]; exact hby'.1)⟩
        obtain ⟨cv, w', π', l', g1, g2, g3, g4, g5⟩ := appendA_sound R S hk (hf _ (Nat.le_refl _) (by omega)) hr hzsz (hρ bx) s2 s1 ha hq'
        refine ⟨.value cv, w', π', l', cv, ?_, .inl rfl, g2, g3, g4, g5⟩
        rw [hrun]
        refine lift_val ?_
        simp only [List.map_toArray, List.map_cons, List.map_nil]
        exact g1
  | copy =>
    simp only [wv] at h
    split at h <;> try (cases h; done)
    rename_i d x td tx hx ht
    have ea := two hx
    have et : at_ = #[td, tx] := by have := congrArg List.toArray ht; simpa using this
    subst ea et
    split at h <;> try (cases h; done)
    rename_i esz eb ez u s off n m hkd hd hcnt
    obtain ⟨e, i, hu, hinfo, hsz, hby, hz, hzl⟩ := kind_slice hkd
    split at h <;> cases h
    rename_i q new hsrc
    obtain ⟨hq, ⟨h1, h2, hez⟩, h4⟩ := hp
    have hvd := hρ d
    rw [hd] at hvd
    obtain ⟨e', c, k1, k2, k3⟩ := live_ref S hvd h1
    rw [cells_live k2] at h2 ⊢
    have hes : eszOf L s = e' := by rw [eszOf, k2]
    rw [hes]
    have hlenx := cnt_sound (P := P) S (hρ x) hcnt (src_live hsrc hq)
    obtain ⟨s1, vals, s2, s3⟩ := src_sound (P := P) R S hez (hρ x) hsrc hq (fun s o n hh => by rw [cnt_ref hcnt s o n hh]; omega)
    have hsame : new = [] → vals = #[] ∧ upd l s (.obj e' (spl c off new)) = l := by
      intro hnew
      subst hnew
      refine ⟨by have := s2.1; simp at this; exact Array.eq_empty_of_size_eq_zero this.symm, ?_⟩
      funext i
      by_cases h : i = s
      · subst h; rw [upd_same, k1]; rfl
      · rw [upd_other l _ h]
    have fin : ∀ a cap w', η d = .slice a n cap → (∀ b, a = some b → (storeCells b vals.toList).run P w = .ok () w') → (a = none → w' = w) → MemR C M π (upd l s (.obj e' (spl c off new))) w' →
        Eff P C M π l L w η o (.imm (.int .i64 (min m n : Nat))) (setS L s (.obj e' (spl c off new))) := by
      intro a cap w' hηd hst hno g2
      subst hsz
      have hcr := copy_run (P := P) (w := w) (dT := td) (sT := tx) (ty := o.type) (x := η x) (n := n) (cap := cap) (a := a) (w' := w') hu hinfo (hlenx w) (s3 w rfl) hst hno
      refine ⟨.value (goInt (min m n : Nat)), w', π, _, _, ?_, .inl rfl, Mrg.set1 S (live_lt h1) (by rw [k1]; simp) _, g2, Step.set k1 ?_, .imm (.int _ _)⟩
      · rw [hrun]
        refine lift_val ?_
        simp only [List.map_toArray, List.map_cons, List.map_nil, hηd]
        exact hcr
      · have := spl_length new c off
        constructor
        · intro h; subst h; exact List.eq_nil_of_length_eq_zero (by simpa using this)
        · intro h; rw [h] at this; exact List.eq_nil_of_length_eq_zero (by simpa using this.symm)
    rcases k3 with ⟨hc, y, cap, hηd, hn, hy, hzz⟩ | ⟨rfl, rfl, a, hηd⟩
    · have hmul : min m n * esz ≤ n * esz := Nat.mul_le_mul_right _ (by omega)
      have hset : ∃ w', (storeCells ⟨(π s).b, y, none⟩ vals.toList).run P w = .ok () w' ∧ MemR C M π (upd l s (.obj e' (spl c off new))) w' := by
        rcases hy with hy | ⟨rfl, rfl⟩
        · rw [← hy]; exact set_obj R S k1 s2 (by rw [s1]; omega) hc h4
        · have hnew : new = [] := List.eq_nil_of_length_eq_zero (by rw [s1]; simp)
          obtain ⟨hv0, hsm⟩ := hsame hnew
          subst hv0
          exact ⟨w, rfl, by rw [hsm]; exact R⟩
      obtain ⟨w', g1, g2⟩ := hset
      exact fin _ cap w' hηd (fun b hb => by cases hb; exact g1) (fun h => by cases h) g2
    · have hnew : new = [] := List.eq_nil_of_length_eq_zero (by rw [s1]; simp)
      obtain ⟨hv0, hsm⟩ := hsame hnew
      subst hv0
      exact fin a 0 w hηd (fun b hb => rfl) (fun _ => rfl) (by rw [hsm]; exact R)
  | _ => simp [wv] at h

theorem wv_sound {ρ : Operand → AVal} {η : Operand → Value} (hρ : ∀ x, VR M π l (ρ x) (η x)) (R : MemR C M π l w) (S : Sub L l) (hk : C.k ≤ L.length) (o : Oper) {p : Prop} {v : AVal} {L' : List Slot}
    (h : wv P ρ L o.op = some (p, v, L')) (hp : p) (hf : ∀ i, L.length ≤ i → i < L'.length → l i = .hole) : Eff P C M π l L w η o v L' := by
  obtain ⟨dst, op, type, pos, after, guard⟩ := o
  simp only at h
  cases op with
  | alloc t =>
    simp only [wv, Option.some.injEq, Prod.mk.injEq] at h
    obtain ⟨rfl, rfl, rfl⟩ := h
    exact alloc_sound R S hk (hf _ (Nat.le_refl _) (by simp)) rfl hp
  | box t x =>
    simp only [wv, Option.some.injEq, Prod.mk.injEq] at h
    obtain ⟨rfl, rfl, rfl⟩ := h
    exact box_sound hρ R S hk (hf _ (Nat.le_refl _) (by simp)) rfl hp.2.2
  | buildSlice t len parts => exact buildSlice_sound hρ R S hk rfl h hp hf
  | makeSlice t a b => exact makeSlice_sound hρ R S hk rfl h hp hf
  | store t a x => exact store_sound hρ R S rfl h hp
  | call c => exact call_sound hρ R S hk rfl h hp hf
  | _ => simp [wv] at h

end
end Go.Abs
