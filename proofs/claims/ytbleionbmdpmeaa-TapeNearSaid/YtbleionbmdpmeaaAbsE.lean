/- The operations that make or write objects. -/
import Derived.Test.YtbleionbmdpmeaaAbsD
import Derived.Laws.AppendOwn
import Derived.Laws.MakeOwn
import Derived.Laws.CopyRow
set_option linter.unusedVariables false
set_option linter.unusedSimpArgs false
namespace Go.Abs
section
variable {M : Mem} {π : Plc} {l : Sl} {L : List Slot} {C : Ctx} {w : World} {P : Program}

/-- What an operation comes to that makes or writes. -/
def Eff (P : Program) (C : Ctx) (M : Mem) (π : Plc) (l : Sl) (L : List Slot) (w : World) (η : Operand → Value) (o : Oper) (v : AVal) (L' : List Slot) : Prop :=
  ∃ nx w' π' l' cv, (execOp η o).run P w = .ok nx w' ∧ (nx = .value cv ∨ nx = .skip ∧ cv = undef) ∧ Mrg L L' l l' ∧ MemR C M π' l' w' ∧ Step π π' l l' ∧ VR M π' l' v cv

theorem run_zero {t : TypeId} {i : TypeInfo} {z : Value} (hi : P.info? t = some i) (hz : i.zero = some z) : (zeroValue t).run P w = .ok z w := by
  simp [zeroValue, typeInfo, hi, hz]

/-- A pointer to a new object. -/
theorem eff_new (R : MemR C M π l w) (S : Sub L l) (hk : C.k ≤ L.length) (hf : l L.length = .hole) {e ty : Nat} {c : List AVal} {cs : Array Value} (hc : VRs M π l c cs) :
    Mrg L (L ++ [.obj e c]) l (upd l L.length (.obj e c)) ∧ MemR C M (updP π L.length ⟨w.heap.size, 0, cs.size⟩) (upd l L.length (.obj e c)) (w.alloc (.cells cs ty)) ∧
    Step π (updP π L.length ⟨w.heap.size, 0, cs.size⟩) l (upd l L.length (.obj e c)) :=
  ⟨Mrg.new1 S _, R.new hf hk (by rw [hc.1]; exact Nat.le_refl _) hc.2, Step.new hf _ _⟩

theorem rep_get {α : Type} (zs : List α) : ∀ (n i : Nat), i < n * zs.length → ((List.replicate n zs).flatten)[i]? = zs[i % zs.length]?
  | 0, i, h => by simp at h
  | n + 1, i, h => by
    rw [List.replicate_succ, List.flatten_cons]
    have hz : 0 < zs.length := by
      rcases Nat.eq_zero_or_pos zs.length with h0 | h0
      · rw [h0] at h; simp at h
      · exact h0
    by_cases hi : i < zs.length
    · rw [List.getElem?_append_left hi, Nat.mod_eq_of_lt hi]
    · rw [List.getElem?_append_right (by omega), rep_get zs n (i - zs.length) (by rw [Nat.add_mul] at h; omega)]
      rw [show i % zs.length = (i - zs.length) % zs.length from by
        conv => lhs; rw [show i = (i - zs.length) + zs.length from by omega]
        rw [Nat.add_mod_right]]

theorem rep_length {α : Type} (zs : List α) (n : Nat) : ((List.replicate n zs).flatten).length = n * zs.length := by
  induction n with
  | zero => simp
  | succ n ih => rw [List.replicate_succ, List.flatten_cons, List.length_append, ih, Nat.add_mul]; omega

theorem made_rel {zs : List AVal} {z : Array Value} (h : VRs M π l zs z) (n : Nat) : VRs M π l ((List.replicate n zs).flatten) (madeCells z (n * z.size)) := by
  refine ⟨by rw [rep_length, size_madeCells, h.1], fun i a hi => ?_⟩
  have hlt : i < n * zs.length := by
    have := (List.getElem?_eq_some_iff.1 hi).1
    rwa [rep_length] at this
  rw [rep_get zs n i hlt] at hi
  have h2 := h.2 _ a hi
  have hz : 0 < zs.length := by
    rcases Nat.eq_zero_or_pos zs.length with h0 | h0
    · rw [h0] at hlt; simp at hlt
    · exact h0
  have hm : i % z.size < z.size := Nat.mod_lt _ (by rw [← h.1]; exact hz)
  rw [h.1] at h2
  have : (madeCells z (n * z.size)).getD i undef = z.getD (i % z.size) undef := by
    rw [Array.getD_eq_getD_getElem?, Array.getD_eq_getD_getElem?]
    simp only [madeCells, Array.getElem?_map]
    have hi' : i < n * z.size := by rw [← h.1]; exact hlt
    rw [show (Array.range (n * z.size))[i]? = some i from by simp [hi']]
    simp [hm]
  rw [this]; exact h2

theorem alloc_sound {η : Operand → Value} (R : MemR C M π l w) (S : Sub L l) (hk : C.k ≤ L.length) (hf : l L.length = .hole) {o : Oper} {t : TypeId} (ho : o.op = .alloc t)
    (hp : (tiOf P t).zero.length = (tiOf P t).sz ∧ 0 < (tiOf P t).sz) : Eff P C M π l L w η o (.ptr L.length 0) (L ++ [.obj 0 (zeroA P t)]) := by
  obtain ⟨i, z, hi, hz, hzr⟩ := zero_some (M := M) (π := π) (l := l) hp
  obtain ⟨h1, h2, h3⟩ := eff_new (e := 0) (ty := t) R S hk hf hzr
  refine ⟨.value (.pointer (some ⟨w.heap.size, 0, none⟩)), w.alloc (.cells z.cells t), _, _, .pointer (some ⟨w.heap.size, 0, none⟩), ?_, .inl rfl, h1, h2, h3, ?_⟩
  · simp only [execOp, ho, Instr.alloc, Sem.run_bind, run_zero (w := w) hi hz, Result.andThen_ok, newVar, newRow, run_newObj, Sem.run_pure]; rfl
  · have := VR.ptr (M := M) (π := updP π L.length ⟨w.heap.size, 0, z.cells.size⟩) (l := upd l L.length (.obj 0 (zeroA P t))) L.length 0 0 _ (upd_same _ _ _)
    rw [updP_same] at this; exact this

theorem box_sound {ρ : Operand → AVal} {η : Operand → Value} (hρ : ∀ x, VR M π l (ρ x) (η x)) (R : MemR C M π l w) (S : Sub L l) (hk : C.k ≤ L.length) (hf : l L.length = .hole) {o : Oper} {t : TypeId} {x : Operand} (ho : o.op = .box t x)
    (hp : okc L (ρ x) = true) : Eff P C M π l L w η o (.ptr L.length 0) (L ++ [.obj 0 (ρ x).cells]) := by
  have hc := cells_rel S (hρ x) hp
  obtain ⟨h1, h2, h3⟩ := eff_new (e := 0) (ty := t) R S hk hf hc
  refine ⟨.value (.pointer (some ⟨w.heap.size, 0, none⟩)), w.alloc (.cells (η x).cells t), _, _, .pointer (some ⟨w.heap.size, 0, none⟩), ?_, .inl rfl, h1, h2, h3, ?_⟩
  · simp only [execOp, ho, Instr.box, Sem.run_bind, newVar, newRow, run_newObj, Result.andThen_ok, Sem.run_pure]; rfl
  · have := VR.ptr (M := M) (π := updP π L.length ⟨w.heap.size, 0, (η x).cells.size⟩) (l := upd l L.length (.obj 0 (ρ x).cells)) L.length 0 0 _ (upd_same _ _ _)
    rw [updP_same] at this; exact this

/-- A slice over a new object. -/
theorem ref_new {e n cap z : Nat} {c : List AVal} (hn : n ≤ cap) (hz : cap * e ≤ z) (hc : c = [] → n = 0 ∧ cap = 0) (h : Nat) :
    VR M (updP π L.length ⟨h, 0, z⟩) (upd l L.length (.obj e c)) (.ref L.length 0 n) (.slice (some ⟨h, 0, none⟩) n cap) := by
  by_cases hcc : c = []
  · obtain ⟨rfl, rfl⟩ := hc hcc
    subst hcc
    exact .refVoid _ 0 e _ (upd_same _ _ _)
  · have := VR.ref (M := M) (π := updP π L.length ⟨h, 0, z⟩) (l := upd l L.length (.obj e c)) L.length 0 n e 0 cap c (upd_same _ _ _) hcc hn (by rw [updP_same]; exact .inl rfl) (by rw [updP_same]; simpa using hz)
    rw [updP_same] at this; exact this

theorem buildSlice_sound {ρ : Operand → AVal} {η : Operand → Value} (hρ : ∀ x, VR M π l (ρ x) (η x)) (R : MemR C M π l w) (S : Sub L l) (hk : C.k ≤ L.length) 
    {o : Oper} {t : TypeId} {len : Nat} {parts : Array (Nat × Operand)} (ho : o.op = .buildSlice t len parts) {p : Prop} {v : AVal} {L' : List Slot}
    (h : wv P ρ L (.buildSlice t len parts) = some (p, v, L')) (hp : p) (hf : ∀ i, L.length ≤ i → i < L'.length → l i = .hole) : Eff P C M π l L w η o v L' := by
  simp only [wv] at h
  split at h <;> try (cases h; done)
  rename_i esz eb ez u hkd
  obtain ⟨e, i, hu, hinfo, hsz, hby, hz, hzl⟩ := kind_slice hkd
  obtain ⟨i', z, hi', hz', hzr⟩ := zeros_rel (M := M) (π := π) (l := l) hz
  rw [hinfo] at hi'; injection hi' with hi'; subst hi'
  have hzsz : z.cells.size = esz := by rw [← hzr.1]; simp [hzl]
  have hrun : ∀ cells, Instr.fill (fun i => some (i * esz, esz)) (madeCells z.cells (len * esz)) (parts.map fun (i, x) => (i, η x)).toList = some cells → len * esz ≤ 16777216 →
      (execOp η o).run P w = .ok (.value (.slice (some ⟨w.heap.size, 0, none⟩) len len)) (w.alloc (.cells cells e)) := by
    intro cells hfill hle
    have hle' : ¬ (len * esz > 2 ^ 24) := by omega
    simp only [execOp, ho, Instr.buildSlice, Sem.run_bind, run_underlying hu, Result.andThen_ok, run_sizeOf w hinfo, sz_info hinfo, hsz, if_neg hle']
    by_cases h0 : len * esz = 0
    · have : (Array.map (fun x => (#[] : Array Value)[x % (#[] : Array Value).size]!) (Array.range (len * esz))) = madeCells z.cells (len * esz) := by rw [h0]; simp [madeCells, Array.range_zero']
      simp only [if_pos h0, Sem.run_pure, Result.andThen_ok, this, hfill, newRow, run_newObj, Sem.run_bind]
      rfl
    · have : (Array.map (fun x => z.cells[x % z.cells.size]!) (Array.range (len * esz))) = madeCells z.cells (len * esz) := rfl
      simp only [if_neg h0, Sem.run_bind, run_zero (w := w) hinfo hz', Sem.run_pure, Result.andThen_ok, this, hfill, newRow, run_newObj]
      rfl
  split at h
  · rename_i h0
    split at h <;> cases h
    rename_i hparts
    subst h0
    have hpn : parts = #[] := by simpa using hparts
    subst hpn
    refine ⟨_, _, _, _, _, hrun #[] (by simp [Instr.fill, madeCells, Array.range_zero']) (by omega), .inl rfl, Mrg.refl S, R.garbage _, Step.refl _ _, .imm (.void _)⟩
  · rename_i h0
    split at h <;> cases h
    rename_i c hfill
    obtain ⟨q1, q2⟩ := parts_rel hρ parts
    have hm := made_rel hzr len
    rw [hzsz] at hm
    obtain ⟨cs', g1, g2⟩ := fill_rel S q1 q2 hm hfill
    obtain ⟨h1, h2, h3⟩ := eff_new (e := esz) (ty := e) R S hk (hf _ (Nat.le_refl _) (by simp)) g2
    refine ⟨_, _, _, _, _, hrun cs' g1 hp.2, .inl rfl, h1, h2, h3, ?_⟩
    have hfl : ∀ {parts : List (Nat × AVal)} {c c' : List AVal}, fillA L (fun i => some (i * esz, esz)) c parts = some c' → c'.length = c.length := by
      intro parts
      induction parts with
      | nil => intro c c' h; simp [fillA] at h; rw [h]
      | cons x parts ih =>
        intro c c' h
        simp only [fillA] at h
        split at h <;> try (cases h; done)
        rw [ih h, spl_length]
    have hcl : c.length = len * esz := by rw [hfl hfill, rep_length]; simp [hzl]
    refine ref_new (Nat.le_refl _) (by rw [← g2.1, hcl]; exact Nat.le_refl _) (fun hc => ?_) _
    have h0' : len * esz = 0 := by rw [← hcl, hc]; rfl
    have : len = 0 := (Nat.mul_eq_zero.1 h0').resolve_right (by omega)
    exact ⟨this, this⟩

theorem makeSlice_sound {ρ : Operand → AVal} {η : Operand → Value} (hρ : ∀ x, VR M π l (ρ x) (η x)) (R : MemR C M π l w) (S : Sub L l) (hk : C.k ≤ L.length) 
    {o : Oper} {t : TypeId} {a b : Operand} (ho : o.op = .makeSlice t a b) {p : Prop} {v : AVal} {L' : List Slot}
    (h : wv P ρ L (.makeSlice t a b) = some (p, v, L')) (hp : p) (hf : ∀ i, L.length ≤ i → i < L'.length → l i = .hole) : Eff P C M π l L w η o v L' := by
  simp only [wv] at h
  split at h <;> try (cases h; done)
  rename_i esz eb ez u k1 n k2 m hkd hl hc
  obtain ⟨e, i, hu, hinfo, hsz, hby, hz, hzl⟩ := kind_slice hkd
  obtain ⟨i', z, hi', hz', hzr⟩ := zeros_rel (M := M) (π := π) (l := l) hz
  rw [hinfo] at hi'; injection hi' with hi'; subst hi'
  have hzsz : z.cells.size = esz := by rw [← hzr.1]; simp [hzl]
  cases h
  obtain ⟨⟨h0, rfl, h1, h2⟩, h3⟩ := hp
  have va := hρ a
  have vb := hρ b
  rw [hl] at va
  rw [hc] at vb
  have ea : η a = .int k1 n := by generalize η a = q at va; cases va with | imm va => cases va; rfl
  have eb' : η b = .int k2 n := by generalize η b = q at vb; cases vb with | imm vb => cases vb; rfl
  have hrun := run_make (P := P) w t e i z hu hinfo hz' k1 k2 n n h0 (Int.le_refl _) (by rw [hby]; exact h1) h2
  have hm := made_rel hzr n.toNat
  rw [hzsz] at hm
  obtain ⟨g1, g2, g3⟩ := eff_new (e := esz) (ty := e) R S hk (hf _ (Nat.le_refl _) (by simp)) hm
  refine ⟨.value (.slice (some ⟨w.heap.size, 0, none⟩) n.toNat n.toNat), _, _, _, .slice (some ⟨w.heap.size, 0, none⟩) n.toNat n.toNat, ?_, .inl rfl, g1, g2, g3, ?_⟩
  · simp only [execOp, ho, ea, eb', Sem.run_bind, hrun, Result.andThen_ok, hsz]; rfl
  · refine ref_new (Nat.le_refl _) (by rw [size_madeCells]; exact Nat.le_refl _) (fun hc => ?_) _
    have : ((List.replicate n.toNat (ez.map AVal.imm)).flatten).length = 0 := by rw [hc]; rfl
    rw [rep_length, List.length_map, hzl] at this
    have : n.toNat = 0 := (Nat.mul_eq_zero.1 this).resolve_right (by omega)
    exact ⟨this, this⟩

theorem all_solid (S : Sub L l) {as : List AVal} {vs : Array Value} (h : VRs M π l as vs) (hs : as.all (solid L) = true) : ∀ v ∈ vs.toList, v.oneCell' = true := by
  intro v hv
  obtain ⟨i, hi, rfl⟩ := List.getElem_of_mem hv
  have hi' : i < as.length := by rw [h.1]; simpa using hi
  have h2 := h.2 i _ (List.getElem?_eq_getElem hi')
  have h3 : solid L as[i] = true := (List.all_eq_true.1 hs) _ (List.getElem_mem hi')
  have h4 : vs.getD i undef = vs.toList[i] := by
    rw [Array.getD_eq_getD_getElem?]
    have : i < vs.size := by simpa using hi
    simp [this]
  rw [h4] at h2
  exact solid_one S h2 h3

/-- Cells of an object written. -/
theorem set_obj (R : MemR C M π l w) (S : Sub L l) {s e o : Nat} {c vs : List AVal} {ws : Array Value} (hs : l s = .obj e c) (hv : VRs M π l vs ws) (hle : o + vs.length ≤ c.length) (hne : c ≠ []) (hsol : vs.all (solid L) = true) :
    ∃ w', (storeCells ⟨(π s).b, (π s).o + o, none⟩ ws.toList).run P w = .ok () w' ∧ MemR C M π (upd l s (.obj e (spl c o vs))) w' := by
  obtain ⟨cs, ty, hb, hz, hcl, hcv⟩ := R.objs s e c hs hne
  have hwl : ws.toList.length = vs.length := by rw [hv.1]; simp
  have hrun := run_storeCells_at P (π s).b ((π s).o + o) ty ws.toList 0 cs w hb (by rw [hwl]; omega) (all_solid S hv hsol)
  simp only [Nat.add_zero] at hrun
  have hlen : (cs.toList.take ((π s).o + o) ++ ws.toList ++ cs.toList.drop ((π s).o + o + ws.toList.length)).length = cs.size := by
    rw [List.length_append, List.length_append, List.length_take, List.length_drop, hwl]; simp; omega
  have hget : ∀ j, (cs.toList.take ((π s).o + o) ++ ws.toList ++ cs.toList.drop ((π s).o + o + ws.toList.length)).toArray.getD j undef =
      if (π s).o + o ≤ j ∧ j < (π s).o + o + vs.length then ws.getD (j - ((π s).o + o)) undef else cs.getD j undef := by
    intro j
    rw [Array.getD_eq_getD_getElem?, List.getElem?_toArray]
    have hA : (cs.toList.take ((π s).o + o)).length = (π s).o + o := by rw [List.length_take]; simp; omega
    have hB : (cs.toList.take ((π s).o + o) ++ ws.toList).length = (π s).o + o + vs.length := by rw [List.length_append, hA, hwl]
    by_cases h1 : j < (π s).o + o
    · rw [List.getElem?_append_left (by omega), List.getElem?_append_left (by omega), List.getElem?_take_of_lt h1, if_neg (by omega), Array.getD_eq_getD_getElem?]; simp
    · by_cases h2 : j < (π s).o + o + vs.length
      · rw [List.getElem?_append_left (by omega), List.getElem?_append_right (by omega), hA, if_pos (by omega), Array.getD_eq_getD_getElem?]; simp
      · rw [List.getElem?_append_right (by omega), hB, List.getElem?_drop, hwl, if_neg (by omega), show (π s).o + o + vs.length + (j - ((π s).o + o + vs.length)) = j from by omega, Array.getD_eq_getD_getElem?]; simp
  refine ⟨_, hrun, R.set hs hne (by rw [spl_length]) (by simp only [List.size_toArray]; rw [hlen, hz]) (fun i a hi => ?_) (fun cs' ty' fr hb' o' ho' => ?_)⟩
  · rw [spl_get vs c o i hle] at hi
    rw [hget]
    by_cases hr : o ≤ i ∧ i < o + vs.length
    · rw [if_pos hr] at hi; rw [if_pos (by omega), show (π s).o + i - ((π s).o + o) = i - o from by omega]; exact hv.2 _ a hi
    · rw [if_neg hr] at hi; rw [if_neg (by omega)]; exact hcv i a hi
  · rw [hb] at hb'; injection hb' with hb'; injection hb' with h1 h2 h3; subst h1
    rw [hget, if_neg (by omega)]

theorem store_sound {ρ : Operand → AVal} {η : Operand → Value} (hρ : ∀ x, VR M π l (ρ x) (η x)) (R : MemR C M π l w) (S : Sub L l)
    {o : Oper} {t : TypeId} {a x : Operand} (ho : o.op = .store t a x) {p : Prop} {v : AVal} {L' : List Slot}
    (h : wv P ρ L (.store t a x) = some (p, v, L')) (hp : p) : Eff P C M π l L w η o v L' := by
  simp only [wv] at h
  split at h <;> cases h
  rename_i s off ha
  obtain ⟨⟨h1, h2, h3, h4⟩, h5, h6⟩ := hp
  have va := hρ a
  rw [ha] at va
  obtain ⟨e, c, g1, g2, g3⟩ := live_ptr S va h1
  rw [cells_live g2] at h2 ⊢
  have hok : okc L (ρ x) = true := by
    cases hx : ρ x with
    | agg l => rfl
    | _ => rw [hx] at h6; simpa [AVal.cells, okc] using h6
  have hv := cells_rel S (hρ x) hok
  have hne : c ≠ [] := by intro h; subst h; simp at h2; omega
  obtain ⟨w', k1, k2⟩ := set_obj (P := P) R S g1 hv (by rw [h5]; exact h2) hne h6
  have hsz : (η x).cells.size = (tiOf P t).sz := by rw [← hv.1]; exact h5
  have he : eszOf L s = e := by rw [eszOf, g2]
  rw [he]
  refine ⟨.skip, w', π, _, undef, ?_, .inr ⟨rfl, rfl⟩, Mrg.set1 S (live_lt h1) (by rw [g1]; simp) _, k2, Step.set g1 ?_, .und _ _ _⟩
  · have hne' : ¬ ((η x).cells.size ≠ (tiOf P t).sz) := by omega
    simp only [execOp, ho, g3, Instr.storeAt, Instr.sureAddr, storeVar, Sem.run_bind, Sem.run_pure, Result.andThen_ok, run_sizeOf' h4, if_neg hne', k1]
  · constructor
    · intro h; exact (hne h).elim
    · intro h
      have := spl_length (ρ x).cells c off
      rw [h] at this
      exact List.eq_nil_of_length_eq_zero (by simpa using this.symm)

end
end Go.Abs
