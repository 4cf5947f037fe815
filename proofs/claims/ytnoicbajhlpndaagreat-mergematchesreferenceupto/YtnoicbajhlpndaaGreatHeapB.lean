/- Rules for literals of structs and slices, for append, and for what is forgotten at a loop's head. -/
import Derived.Test.YtnoicbajhlpndaaGreatHeapA
import Derived.Laws.StructEq
import Derived.OrdersIn
namespace Go.Proofs.YtnoicbajhlpndaaGreat.Hp
open Go Go.RowKit Go.Shelf
set_option linter.unusedVariables false
set_option linter.unusedSimpArgs false

/-! ### filling cells -/
theorem foldl_set (off : Nat) : ∀ (l : List Value) (n : Nat) (cells : Array Value), off + n + l.length ≤ cells.size →
    ((l.zipIdx n).foldl (fun cs (p : Value × Nat) => cs.setIfInBounds (off + p.2) p.1) cells).toList = setR cells.toList (off + n) l := by
  intro l
  induction l with
  | nil => intro n cells h; simp [setR]
  | cons x l ih =>
    intro n cells h
    simp only [List.length_cons] at h
    rw [List.zipIdx_cons, List.foldl_cons, ih (n + 1) _ (by simp; omega)]
    apply List.ext_getElem?
    intro i
    rw [setR_get (by simp; omega), setR_get (by simp; omega)]
    simp only [Array.toList_setIfInBounds, List.length_cons]
    by_cases h1 : i = off + n
    · subst h1
      rw [if_neg (by omega), if_pos (by omega), List.getElem?_set_self (by simp; omega)]
      simp
    · by_cases h2 : off + (n + 1) ≤ i ∧ i < off + (n + 1) + l.length
      · rw [if_pos h2, if_pos (by omega), show i - (off + n) = (i - (off + (n + 1))) + 1 from by omega]
        simp
      · rw [if_neg h2, if_neg (by omega), List.getElem?_set_ne (by omega)]

theorem fill_step (place : Nat → Option (Nat × Nat)) (cells : Array Value) (i : Nat) (v : Value) (rest : List (Nat × Value)) {off size : Nat} (hp : place i = some (off, size)) (hs : v.cells.size = size) (ho : off + size ≤ cells.size) :
    ∃ cells', Instr.fill place cells ((i, v) :: rest) = Instr.fill place cells' rest ∧ cells'.toList = setR cells.toList off v.cells.toList ∧ cells'.size = cells.size := by
  refine ⟨v.cells.zipIdx.foldl (fun cs (c, j) => cs.setIfInBounds (off + j) c) cells, ?_, ?_, ?_⟩
  · simp only [Instr.fill, hp]
    rw [if_neg (by simp; omega)]
  · have := foldl_set off v.cells.toList 0 cells (by simp; omega)
    rw [Nat.add_zero] at this
    rw [← this, ← Array.foldl_toList, Array.toList_zipIdx]
  · have := foldl_set off v.cells.toList 0 cells (by simp; omega)
    have h2 : (v.cells.zipIdx.foldl (fun cs (c, j) => cs.setIfInBounds (off + j) c) cells).toList.length = cells.toList.length := by
      rw [← Array.foldl_toList, Array.toList_zipIdx, this, setR_length (by simp; omega)]
    simpa using h2

/-- The parts of a literal, laid over its zero cells. -/
def bldA (pl : Nat → Option (Nat × Nat)) : List (Nat × AV) → List AV → Option (List AV)
  | [], cs => some cs
  | (i, v) :: rest, cs => match pl i, cellsOf v with
    | some (off, size), some vs => bif Nat.beq vs.length size && Nat.ble (off + size) cs.length then bldA pl rest (setR cs off vs) else none
    | _, _ => none

theorem bldA_fill {hp : Array Obj} {imm : Nat → Prop} {pl place : Nat → Option (Nat × Nat)} (hpl : ∀ i p, pl i = some p → place i = some p) : ∀ (ps : List (Nat × AV)) (xs : List (Nat × Value)) (cs : List AV) (cells : Array Value) (out : List AV),
    bldA pl ps cs = some out → xs.length = ps.length → (∀ (j : Nat) p x, ps[j]? = some p → xs[j]? = some x → p.1 = x.1 ∧ RelA hp imm p.2 x.2) → Rels hp imm cs cells.toList →
    ∃ cells', Instr.fill place cells xs = some cells' ∧ Rels hp imm out cells'.toList := by
  intro ps
  induction ps with
  | nil =>
    intro xs cs cells out hb hl hr hc
    have : xs = [] := List.eq_nil_of_length_eq_zero (by simpa using hl)
    subst this
    cases hb
    exact ⟨cells, rfl, hc⟩
  | cons p ps ih =>
    intro xs cs cells out hb hl hr hc
    cases xs with
    | nil => simp at hl
    | cons x xs =>
      obtain ⟨i, v⟩ := p
      obtain ⟨i', xv⟩ := x
      obtain ⟨e, hv⟩ := hr 0 _ _ rfl rfl
      simp only at e hv
      subst e
      simp only [bldA] at hb
      split at hb
      · rename_i off size vs hpi hcv
        cases hq : (Nat.beq vs.length size && Nat.ble (off + size) cs.length) with
        | false => simp [hq] at hb
        | true =>
          simp only [hq, cond_true] at hb
          simp only [Bool.and_eq_true, Nat.beq_eq, Nat.ble_eq] at hq
          obtain ⟨h1, h2⟩ := cellsOf_rel hv hcv
          have hsz : xv.cells.size = size := by have := h1.1; simp only [Array.length_toList] at this; omega
          have hcl : cells.size = cs.length := by have := hc.1; simpa using this
          obtain ⟨cells', e1, e2, e3⟩ := fill_step place cells i xv xs (hpl i _ hpi) hsz (by omega)
          rw [e1]
          refine ih xs _ cells' out hb (by simpa using hl) (fun j p x h3 h4 => hr (j + 1) p x (by simpa using h3) (by simpa using h4)) ?_
          rw [e2]
          exact hc.setR h1 (by omega)
      · cases hb

theorem bldA_length {pl : Nat → Option (Nat × Nat)} : ∀ {ps : List (Nat × AV)} {cs out : List AV}, bldA pl ps cs = some out → out.length = cs.length := by
  intro ps
  induction ps with
  | nil => intro cs out h; cases h; rfl
  | cons p ps ih =>
    intro cs out h
    obtain ⟨i, v⟩ := p
    simp only [bldA] at h
    split at h
    · rename_i off size vs hpi hcv
      cases hq : (Nat.beq vs.length size && Nat.ble (off + size) cs.length) with
      | false => simp [hq] at h
      | true =>
        simp only [hq, cond_true] at h
        simp only [Bool.and_eq_true, Nat.beq_eq, Nat.ble_eq] at hq
        rw [ih h, setR_length (by omega)]
    · cases h

def evp (a : Tmps) : List (Nat × Operand) → Option (List (Nat × AV))
  | [] => some []
  | (i, x) :: r => match ev a x, evp a r with
    | some v, some l => some ((i, v) :: l)
    | _, _ => none

section
variable {P : Program} {X : Ctx} {N : Nat} {r : Option Nat} {Q : Post} {ds : List Deferred} {a : Tmps} {h : AHeap}
variable {ops : Array Oper} {rest : List Oper} {d : Tmp} {ty : TypeId} {pos : String} {aft : Array Edge}

theorem St.evp {act : Act} {w : World} (s : St X N ds a h act w) : ∀ {xs : List (Nat × Operand)} {vs : List (Nat × AV)}, evp a xs = some vs → xs.length = vs.length ∧ ∀ (j : Nat) p x, vs[j]? = some p → (xs.map fun q => (q.1, act.eval q.2))[j]? = some x → p.1 = x.1 ∧ RelA w.heap (Imm X h w) p.2 x.2 := by
  intro xs
  induction xs with
  | nil => intro vs hv; cases hv; simp
  | cons q xs ih =>
    intro vs hv
    obtain ⟨i, x⟩ := q
    simp only [Hp.evp] at hv
    split at hv
    · rename_i v l hx hl
      simp only [Option.some.injEq] at hv
      subst hv
      obtain ⟨h1, h2⟩ := ih hl
      refine ⟨by simp [h1], fun j p y hp hy => ?_⟩
      cases j with
      | zero => simp at hp hy; subst hp; subst hy; exact ⟨rfl, s.ev hx⟩
      | succ j => exact h2 j p y (by simpa using hp) (by simpa using hy)
    · cases hv

def plS (fs : List (Nat × Nat × Bool)) (i : Nat) : Option (Nat × Nat) :=
  match fs[i]? with
  | some (off, size, _) => some (off, size)
  | none => none
def plA (k : Nat) (i : Nat) : Option (Nat × Nat) := some (i * k, k)

theorem zeroK_get {t : TypeId} {zs : List PV} (hz : zeroK P t = some zs) (w : World) : ∃ z, (zeroValue t).run P w = .ok z w ∧ zs = z.cells.toList.map zav ∧ ∀ (hp : Array Obj) (imm : Nat → Prop), Rels hp imm (zs.map .p) z.cells.toList := by
  unfold zeroK at hz
  split at hz
  · rename_i i hi
    split at hz
    · rename_i z hzz
      simp only [Option.some.injEq] at hz
      subst hz
      refine ⟨z, by simp [zeroValue, typeInfo, program, Sem.run, bind, Sem.bind, pure, hi, hzz], rfl, fun hp imm => ⟨by simp, fun i c v hc hv => ?_⟩⟩
      simp only [List.getElem?_map, hv, Option.map_some, Option.some.injEq] at hc
      subst hc
      exact .p (zav_rel _ _ v)
    · cases hz
  · cases hz

theorem Rels.agg {hp : Array Obj} {imm : Nat → Prop} {cs : List AV} {cells : Array Value} (h : Rels hp imm cs cells.toList) : RelA hp imm (.agg cs) (.agg cells) :=
  .agg cs cells (by simpa using h.1) fun i c v hc hv => h.2 i c v hc (by simpa using hv)

theorem mapM_places {fs : Array Field} {fl : List (Nat × Nat × Bool)} (hf : fldK P fs.toList = some fl) (w : World) : ∃ pls : Array (Nat × Nat), (fs.mapM (m := Sem) fun f => do pure (f.offset, ← sizeOf f.type)).run P w = .ok pls w ∧ ∀ i p, plS fl i = some p → pls[i]? = some p := by
  have key : ∀ (l : List Field) (fl : List (Nat × Nat × Bool)), fldK P l = some fl → ∃ pls : List (Nat × Nat), (l.mapM (m := Sem) fun f => do pure (f.offset, ← sizeOf f.type)).run P w = .ok pls w ∧ ∀ i p, plS fl i = some p → pls[i]? = some p := by
    intro l
    induction l with
    | nil => intro fl h; simp only [fldK, Option.some.injEq] at h; subst h; exact ⟨[], rfl, by intro i p h; simp [plS] at h⟩
    | cons f l ih =>
      intro fl h
      simp only [fldK] at h
      split at h
      · rename_i k l2 hk hl
        simp only [Option.some.injEq] at h
        subst h
        obtain ⟨pls, h1, h2⟩ := ih _ hl
        have hsz : (sizeOf f.type).run P w = .ok k.2 w := by
          obtain ⟨g, n⟩ := k
          cases g
          · exact (tyK_one hk w).2
          · exact (tyK_agg hk w).2
        refine ⟨(f.offset, k.2) :: pls, ?_, fun i p hp => ?_⟩
        · have h0 : (do pure (f.offset, ← sizeOf f.type) : Sem (Nat × Nat)).run P w = .ok (f.offset, k.2) w := by rw [run_bind hsz]; rfl
          rw [List.mapM_cons, run_bind h0, run_bind h1]; rfl
        · cases i with
          | zero => simpa [plS] using hp
          | succ i => exact h2 i p (by simpa [plS] using hp)
      · cases h
  obtain ⟨pls, h1, h2⟩ := key _ _ hf
  refine ⟨pls.toArray, ?_, fun i p hp => by simpa using h2 i p hp⟩
  rw [Array.mapM_eq_mapM_toList, map_eq_pure_bind, run_bind h1]; rfl

/-- A struct literal. -/
theorem o_build {t : TypeId} {parts : Array (Nat × Operand)} {ps : List (Nat × AV)} {fs : List (Nat × Nat × Bool)} {zs : List PV} {out : List AV} [hs : StructC P t fs] [hz : ZeroC P t zs] (hx : evp a parts.toList = some ps) (hb : bldA (plS fs) ps (zs.map .p) = some out) (hN : d < N)
    (k : WPs P X N r ops rest Q ds ((d, .agg out) :: a) h) : WPs P X N r ops (⟨some d, .build t parts, ty, pos, aft, none⟩ :: rest) Q ds a h :=
  o_pure hN (by intro c e; cases e) (fun act w s => by
    obtain ⟨hl, hr⟩ := s.evp hx
    obtain ⟨z, h1, h2, h3⟩ := zeroK_get hz.out w
    have hs' := hs.out
    unfold fieldsK at hs'
    split at hs'
    · rename_i fields hu
      obtain ⟨pls, h4, h5⟩ := mapM_places hs' w
      obtain ⟨cells', h6, h7⟩ := bldA_fill (place := (pls[·]?)) h5 ps (parts.toList.map fun q => (q.1, act.eval q.2)) (zs.map .p) z.cells out hb (by simp [hl]) hr (h3 w.heap (Imm X h w))
      refine ⟨.agg cells', exec_v (m := Instr.build t (parts.map fun (i, x) => (i, act.eval x))) rfl ?_, h7.agg⟩
      unfold Instr.build
      rw [run_bind h1]
      simp only
      rw [run_bind (run_underlying0 hu w)]
      simp only
      rw [run_bind h4]
      have e : (parts.map fun (i, x) => (i, act.eval x)).toList = parts.toList.map fun q => (q.1, act.eval q.2) := by simp
      rw [e, h6]
      rfl
    · cases hs') k
/-- A value that is a new slice of its own. -/
theorem o_newsl {op : Op} {te k len cap : Nat} {es : List (List PV)} (hN : d < N) (hdef : ∀ c, op ≠ .defer c)
    (hrun : ∀ act w, St X N ds a h act w → ∃ w' o c, cap ≤ c ∧ (execOp act.eval ⟨some d, op, ty, pos, aft, none⟩).run P w = .ok (.value (.slice (some ⟨w.heap.size, 0, none⟩) len c)) w' ∧ New w w' o ∧ RelO w'.heap (Imm X ((w.heap.size, .arr te k es c) :: h) w') (.arr te k es c) o)
    (kk : ∀ b c, cap ≤ c → WPs P X N r ops rest Q ds ((d, .os b k 0 len c) :: a) ((b, .arr te k es c) :: h)) : WPs P X N r ops (⟨some d, op, ty, pos, aft, none⟩ :: rest) Q ds a h :=
  o_run (fun v h' => ∃ b c, cap ≤ c ∧ v = .os b k 0 len c ∧ h' = (b, .arr te k es c) :: h) hN hdef (fun act w s => by
    obtain ⟨w', o, c, h0, h1, h2, h3⟩ := hrun act w s
    obtain ⟨H, E⟩ := s.heap.new h2 h3
    refine ⟨_, w', .os w.heap.size k 0 len c, _, ⟨_, c, h0, rfl, rfl⟩, h1, ?_, H, E⟩
    have := RelA.os (hp := w'.heap) (imm := Imm X ((w.heap.size, .arr te k es c) :: h) w') w.heap.size k 0 len c
    rwa [Nat.zero_mul] at this) fun v h' ⟨b, c, e0, e1, e2⟩ => by subst e1; subst e2; exact kk b c e0
end
end Go.Proofs.YtnoicbajhlpndaaGreat.Hp
/- Rules for slice literals and for append. -/
namespace Go.Proofs.YtnoicbajhlpndaaGreat.Hp
open Go Go.RowKit Go.Shelf
set_option linter.unusedVariables false
set_option linter.unusedSimpArgs false

/-- A list of cells, as elements of k cells each. -/
def chunk (k : Nat) : Nat → List PV → List (List PV)
  | 0, _ => []
  | n + 1, cs => cs.take k :: chunk k n (cs.drop k)
theorem chunk_get {k : Nat} : ∀ {n : Nat} {cs : List PV} {i : Nat} {e : List PV}, (chunk k n cs)[i]? = some e → i < n ∧ e = (cs.drop (i * k)).take k := by
  intro n
  induction n with
  | zero => intro cs i e h; simp [chunk] at h
  | succ n ih =>
    intro cs i e h
    cases i with
    | zero => simp [chunk] at h; simp [h]
    | succ i =>
      simp only [chunk, List.getElem?_cons_succ] at h
      obtain ⟨h1, h2⟩ := ih h
      refine ⟨by omega, ?_⟩
      rw [h2, List.drop_drop, Nat.succ_mul, Nat.add_comm k]
theorem chunk_length (k n : Nat) (cs : List PV) : (chunk k n cs).length = n := by
  induction n generalizing cs with
  | zero => rfl
  | succ n ih => simp [chunk, ih]

/-- Each element has k cells, none of them an aggregate. -/
def okB (k : Nat) (e : List PV) : Bool := Nat.beq e.length k && e.all PV.isCell
theorem okB_len {k : Nat} {e : List PV} (h : okB k e = true) : e.length = k := by simp only [okB, Bool.and_eq_true, Nat.beq_eq] at h; exact h.1
theorem okB_cell {k : Nat} {e : List PV} (h : okB k e = true) : ∀ c ∈ e, c.isCell = true := by simp only [okB, Bool.and_eq_true] at h; exact List.all_eq_true.1 h.2
theorem okB_one {k : Nat} {e : List PV} (h : okB k e = true) : ∀ y ∈ [e], okB k y = true := by intro y hy; simp at hy; subst hy; exact h
theorem okB_all {k : Nat} {l : List (List PV)} (h : l.all (okB k) = true) : ∀ y ∈ l, okB k y = true := List.all_eq_true.1 h

section
variable {P : Program} {X : Ctx} {N : Nat} {r : Option Nat} {Q : Post} {ds : List Deferred} {a : Tmps} {h : AHeap}
variable {ops : Array Oper} {rest : List Oper} {d : Tmp} {ty : TypeId} {pos : String} {aft : Array Edge}

def rep (n : Nat) (zs : List PV) : List PV := (List.replicate n zs).flatten

theorem rep_get {zs : List PV} {n i : Nat} (h : i < n * zs.length) : (rep n zs)[i]? = zs[i % zs.length]? := by
  induction n generalizing i with
  | zero => simp at h
  | succ n ih =>
    rw [Nat.succ_mul] at h
    unfold rep
    rw [List.replicate_succ, List.flatten_cons]
    by_cases hi : i < zs.length
    · rw [List.getElem?_append_left hi, Nat.mod_eq_of_lt hi]
    · rw [List.getElem?_append_right (by omega)]
      have := ih (i := i - zs.length) (by omega)
      unfold rep at this
      rw [this, ← Nat.mod_eq_sub_mod (by omega)]
theorem rep_length (n : Nat) (zs : List PV) : (rep n zs).length = n * zs.length := by
  induction n with
  | zero => simp [rep]
  | succ n ih => unfold rep at *; rw [List.replicate_succ, List.flatten_cons, List.length_append, ih, Nat.succ_mul, Nat.add_comm]

/-- A slice literal. -/
theorem o_buildSlice {t : TypeId} {len : Nat} {parts : Array (Nat × Operand)} {ps : List (Nat × AV)} {te k by_ : Nat} {zs : List PV} {out : List AV} {pout : List PV} [hs : SliceC P t te k by_] [hz : ZeroC P te zs] (hx : evp a parts.toList = some ps)
    (hb : bldA (plA k) ps ((rep len zs).map .p) = some out) (hp : pcells out = some pout) (hsmall : Nat.ble (len * k) 16777216 = true) (hzl : zs.length = k) (hN : d < N)
    (kk : ∀ b, WPs P X N r ops rest Q ds ((d, .os b k 0 len len) :: a) ((b, .arr te k (chunk k len pout) len) :: h)) : WPs P X N r ops (⟨some d, .buildSlice t len parts, ty, pos, aft, none⟩ :: rest) Q ds a h :=
  o_run (fun v h' => ∃ b, v = .os b k 0 len len ∧ h' = (b, .arr te k (chunk k len pout) len) :: h) hN (by intro c e; cases e) (fun act w s => by
    obtain ⟨hl, hr⟩ := s.evp hx
    obtain ⟨hu, ii, z0, hi, hik, _, hiz, hzc, hkpos, _⟩ := slK_get hs.out
    have hsm := Nat.le_of_ble_eq_true hsmall
    obtain ⟨z, h1, h2, h3⟩ := zeroK_get hz.out w
    have hzsz : z.cells.size = k := by rw [h2] at hzl; simpa using hzl
    let zeros : Array Value := if len * k = 0 then #[] else z.cells
    let base : Array Value := (Array.range (len * k)).map (fun i => zeros[i % zeros.size]!)
    have hbase : Rels w.heap (Imm X h w) ((rep len zs).map .p) base.toList := by
      refine ⟨by simp [base, rep_length, hzl], fun i c v hc hv => ?_⟩
      have hi2 : i < len * k := by
        have := (List.getElem?_eq_some_iff.1 hv).1
        simpa [base] using this
      have hne : len * k ≠ 0 := by omega
      rw [List.getElem?_map, rep_get (by rw [hzl]; exact hi2), hzl] at hc
      have hmod : i % k < k := Nat.mod_lt _ hkpos
      have hv2 : v = z.cells[i % k]! := by
        simp only [base, zeros, if_neg hne, hzsz, Array.toList_map, List.getElem?_map, Array.toList_range, List.getElem?_range hi2, Option.map_some, Option.some.injEq] at hv
        exact hv.symm
      refine (h3 w.heap (Imm X h w)).2 (i % k) c v ?_ ?_
      · rw [List.getElem?_map]; exact hc
      · rw [hv2]; simp [hzsz, hmod]
    obtain ⟨cells', h6, h7⟩ := bldA_fill (place := fun i => some (i * k, k)) (fun i p hp => hp) ps (parts.toList.map fun q => (q.1, act.eval q.2)) _ base out hb (by simp [hl]) hr hbase
    have hpo := pcells_map hp
    subst hpo
    have n := new_alloc w (.cells cells' te)
    have hsz : cells'.size = len * k := by
      have e1 := h7.1
      have e2 : pout.length = len * k := by
        have := bldA_length hb
        simpa [rep_length, hzl] using this
      simp only [Array.length_toList, List.length_map] at e1; omega
    have hrel : RelO (w.alloc (.cells cells' te)).heap (Imm X ((w.heap.size, .arr te k (chunk k len pout) len) :: h) (w.alloc (.cells cells' te))) (.arr te k (chunk k len pout) len) (.cells cells' te) := by
      refine .arr te k _ len cells' hsz (by rw [chunk_length]; exact Nat.le_refl _) (fun e he => ?_) (fun i j e c v he hc hv => ?_)
      · obtain ⟨i, hi3⟩ := List.getElem?_of_mem he
        obtain ⟨hin, rfl⟩ := chunk_get hi3
        have e2 : pout.length = len * k := by have := h7.1; simp only [Array.length_toList, List.length_map] at this; omega
        have : i * k + k ≤ len * k := by rw [← Nat.succ_mul]; exact Nat.mul_le_mul_right k hin
        simp; omega
      · obtain ⟨hin, rfl⟩ := chunk_get he
        have hj : j < k := by
          have := (List.getElem?_eq_some_iff.1 hc).1
          simp at this; omega
        rw [List.getElem?_take, if_pos hj, List.getElem?_drop] at hc
        have := h7.2 (i * k + j) (.p c) v (by simp [hc]) (by simpa using hv)
        cases this with | p hq => exact hq.mono (imm_new n _)
    obtain ⟨H, E⟩ := s.heap.new n hrel
    refine ⟨.slice (some ⟨w.heap.size, 0, none⟩) len len, _, .os w.heap.size k 0 len len, _, ⟨_, rfl, rfl⟩, ?_, ?_, H, E⟩
    · refine exec_v rfl ?_
      unfold Instr.buildSlice
      rw [run_bind (run_underlying0 hu w)]
      simp only
      rw [run_bind (run_sizeOf0 hi w), hik]
      rw [if_neg (by omega : ¬ len * k > 2 ^ 24)]
      have e : (Array.map (fun x => (x.fst, act.eval x.snd)) parts).toList = parts.toList.map fun q => (q.1, act.eval q.2) := by simp
      have h6' : Instr.fill (fun i => some (i * k, k)) ((Array.range (len * k)).map (fun x => zeros[x % zeros.size]!)) (parts.toList.map fun q => (q.1, act.eval q.2)) = some cells' := h6
      by_cases h0 : len * k = 0
      · simp only [zeros, if_pos h0] at h6'
        rw [if_pos h0, run_bind (run_pure _ w), e, h6']
        rfl
      · simp only [zeros, if_neg h0] at h6'
        rw [if_neg h0, run_bind h1, run_bind (run_pure _ w), e, h6']
        rfl
    · have := RelA.os (hp := (w.alloc (.cells cells' te)).heap) (imm := Imm X ((w.heap.size, .arr te k (chunk k len pout) len) :: h) (w.alloc (.cells cells' te))) w.heap.size k 0 len len
      rwa [Nat.zero_mul] at this) fun v h' ⟨b, e1, e2⟩ => by subst e1; subst e2; exact kk b
end
end Go.Proofs.YtnoicbajhlpndaaGreat.Hp
/- Rules for append; the commonest ways in which a function hands back its results. -/
namespace Go.Proofs.YtnoicbajhlpndaaGreat.Hp
open Go Go.RowKit Go.Shelf
set_option linter.unusedVariables false
set_option linter.unusedSimpArgs false

theorem set_same {α : Type} {l : List α} {i : Nat} {x : α} (h : l[i]? = some x) : l.set i x = l := by
  apply List.ext_getElem?
  intro j
  rw [List.getElem?_set]
  by_cases hj : i = j
  · subst hj; obtain ⟨hl, hv⟩ := List.getElem?_eq_some_iff.1 h; simp [hl, hv]
  · rw [if_neg hj]
theorem nodup_set {l : List Nat} (h : l.Nodup) {x : Nat} (hx : x ∉ l) (i : Nat) : (l.set i x).Nodup := by
  induction l generalizing i with
  | nil => simp
  | cons y l ih =>
    obtain ⟨h1, h2⟩ := List.nodup_cons.1 h
    simp only [List.mem_cons, not_or] at hx
    cases i with
    | zero => simp only [List.set_cons_zero]; exact List.nodup_cons.2 ⟨hx.2, h2⟩
    | succ i =>
      simp only [List.set_cons_succ]
      refine List.nodup_cons.2 ⟨fun hm => ?_, ih h2 hx.2 i⟩
      rcases List.mem_or_eq_of_mem_set hm with hm | hm
      · exact h1 hm
      · exact hx.1 hm.symm

section
variable {P : Program} {X : Ctx} {N : Nat} {r : Option Nat} {Q : Post} {ds : List Deferred} {a : Tmps} {h : AHeap}
variable {ops : Array Oper} {rest : List Oper} {d : Tmp} {ty : TypeId} {pos : String} {aft : Array Edge}

/-- What is appended. -/
inductive Src (h : AHeap) (k : Nat) : AV → List (List PV) → Prop
  | v (es : List (List PV)) (f : Bool) : Src h k (V es f) es
  | o (i : Nat) {b off len cap c' : Nat} {ty : TypeId} {es : List (List PV)} (hh : h[i]? = some (b, .arr ty k es c')) (hl : Nat.ble (off + len) es.length = true) : Src h k (.os b k off len cap) ((es.drop off).take len)
  | o0 (i : Nat) {b len cap c' : Nat} {ty : TypeId} {es : List (List PV)} (hh : h[i]? = some (b, .arr ty k es c')) (hl : len = es.length) : Src h k (.os b k 0 len cap) es

/-- The cells that are appended lie in memory. -/
theorem Src.cells {k : Nat} {v : AV} {ys : List (List PV)} (hs : Src h k v ys) (hok : ∀ y ∈ ys, okB k y = true) {ds : List Deferred} {act : Act} {w : World} (s : St X N ds a h act w) {x : Value} (hr : RelA w.heap (Imm X h w) v x) :
    ∃ news : List Value, news.length = ys.length * k ∧ (∀ u ∈ news, u.oneCell' = true) ∧ (∀ (i j : Nat) (e : List PV) (c : PV) (u : Value), ys[i]? = some e → e[j]? = some c → news[i * k + j]? = some u → RelP w.heap (Imm X h w) c u) ∧
      ((x = .slice none 0 0 ∧ ys = []) ∨ ∃ ad m c, x = .slice (some ad) m c ∧ m = ys.length ∧ ∀ j u, news[j]? = some u → w.cell? (ad.add j) = some u) := by
  -- from a block that holds them from some cell on
  have main : ∀ (b o : Nat) (cells : Array Value) (ty : TypeId) (fz : Nat × Nat), w.heap[b]? = some (.cells cells ty fz) → o + ys.length * k ≤ cells.size →
      (∀ (i j : Nat) (e : List PV) (c : PV) (u : Value), ys[i]? = some e → e[j]? = some c → cells[o + i * k + j]? = some u → RelP w.heap (Imm X h w) c u) → ∀ c, x = .slice (some ⟨b, o, none⟩) ys.length c →
      ∃ news : List Value, news.length = ys.length * k ∧ (∀ u ∈ news, u.oneCell' = true) ∧ (∀ (i j : Nat) (e : List PV) (c : PV) (u : Value), ys[i]? = some e → e[j]? = some c → news[i * k + j]? = some u → RelP w.heap (Imm X h w) c u) ∧
      ((x = .slice none 0 0 ∧ ys = []) ∨ ∃ ad m c, x = .slice (some ad) m c ∧ m = ys.length ∧ ∀ j u, news[j]? = some u → w.cell? (ad.add j) = some u) := by
    intro b o cells ty fz hb hsz hrel c hx
    have hget : ∀ j u, ((cells.toList.drop o).take (ys.length * k))[j]? = some u → j < ys.length * k ∧ cells[o + j]? = some u := by
      intro j u hj
      rw [List.getElem?_take] at hj
      split at hj
      · rename_i hlt; rw [List.getElem?_drop] at hj; exact ⟨hlt, by simpa using hj⟩
      · cases hj
    have hrel2 : ∀ (i j : Nat) (e : List PV) (c : PV) (u : Value), ys[i]? = some e → e[j]? = some c → ((cells.toList.drop o).take (ys.length * k))[i * k + j]? = some u → RelP w.heap (Imm X h w) c u :=
      fun i j e c u he hc hu => hrel i j e c u he hc (by rw [Nat.add_assoc]; exact (hget _ _ hu).2)
    refine ⟨(cells.toList.drop o).take (ys.length * k), by simp; omega, fun u hu => ?_, hrel2, .inr ⟨⟨b, o, none⟩, ys.length, c, hx, rfl, fun j u hj => ?_⟩⟩
    · obtain ⟨j, hj⟩ := List.getElem?_of_mem hu
      obtain ⟨hlt, _⟩ := hget j u hj
      have hk0 : 0 < k := by
        rcases Nat.eq_zero_or_pos k with h0 | h0
        · rw [h0, Nat.mul_zero] at hlt; omega
        · exact h0
      have hi : j / k < ys.length := Nat.div_lt_of_lt_mul (by rw [Nat.mul_comm]; exact hlt)
      have he := List.getElem_mem hi
      have hlen := okB_len (hok _ he)
      have hjm : j % k < ys[j / k].length := by rw [hlen]; exact Nat.mod_lt _ hk0
      have hu2 : ((cells.toList.drop o).take (ys.length * k))[(j / k) * k + j % k]? = some u := by rw [Nat.div_add_mod']; exact hj
      have := hrel2 (j / k) (j % k) ys[j / k] (ys[j / k][j % k]) u (by simp [hi]) (by simp [hjm]) hu2
      exact this.isCell (okB_cell (hok _ he) _ (List.getElem_mem hjm))
    · rw [Addr.add_lit, cell_of_row w b _ cells ty fz hb]
      exact (hget j u hj).2
  cases hs with
  | v es f =>
    cases hr with
    | p hp =>
      cases hp with
      | nil => exact ⟨[], by simp, by simp, by simp, .inl ⟨rfl, rfl⟩⟩
      | vs _ _ b off k' cap cells ty fz hb hi hf hc hsz hk hrr =>
        by_cases h0 : ys = []
        · subst h0
          exact ⟨[], by simp, by simp, by simp, .inr ⟨_, _, _, rfl, rfl, by simp⟩⟩
        · have hkk : k' = k := by
            cases ys with
            | nil => exact absurd rfl h0
            | cons e _ => rw [← hk e (by simp)]; exact okB_len (hok e (by simp))
          subst hkk
          exact main b off cells ty fz hb hsz hrr cap rfl
  | o i hh hl =>
    rename_i b off len cap c' ty es
    cases hr
    obtain ⟨cells, hb, hsz, hcap, hk, hrr⟩ := s.arr hh
    have hl' := Nat.le_of_ble_eq_true hl
    have hlen : ((es.drop off).take len).length = len := by simp; omega
    have hfit : off * k + ((es.drop off).take len).length * k ≤ cells.size := by
      rw [hlen, hsz, ← Nat.add_mul]; exact Nat.mul_le_mul_right k (by omega)
    have := main b (off * k) cells ty (0, 0) hb hfit (fun i j e c u he hc hu => by
      rw [List.getElem?_take] at he
      split at he
      · rw [List.getElem?_drop] at he
        exact hrr (off + i) j e c u he hc (by rw [Nat.add_mul]; exact hu)
      · cases he) cap (by rw [hlen])
    exact this
  | o0 i hh hl =>
    rename_i b len cap c' ty
    subst hl
    cases hr
    obtain ⟨cells, hb, hsz, hcap, hk, hrr⟩ := s.arr hh
    have hfit : 0 * k + ys.length * k ≤ cells.size := by
      rw [hsz, Nat.zero_mul, Nat.zero_add]; exact Nat.mul_le_mul_right k hcap
    exact main b (0 * k) cells ty (0, 0) hb hfit (fun i j e c u he hc hu => hrr i j e c u he hc (by rw [Nat.zero_mul, Nat.zero_add] at hu; exact hu)) cap rfl

theorem exec_append {t : TypeId} {x y : Operand} {act : Act} {w w' : World} {v : Value} (h : (Builtin.append_ #[t, t] ty #[act.eval x, act.eval y]).run P w = .ok v w') :
    (execOp act.eval ⟨some d, .call { callee := .builtin .append, args := #[x, y], argTypes := #[t, t] }, ty, pos, aft, none⟩).run P w = .ok (.value v) w' := by
  refine exec_v (m := Builtin.append_ #[t, t] ty (#[x, y].map act.eval)) rfl ?_
  simpa using h

/-- The new block, where append lays one. -/
theorem grown_rel {te k : Nat} {es ys : List (List PV)} {olds news zs : List Value} {hp : Array Obj} {imm : Nat → Prop} {c : Nat} (h1 : olds.length = es.length * k) (h2 : news.length = ys.length * k) (hke : ∀ e ∈ es, e.length = k) (hky : ∀ e ∈ ys, e.length = k)
    (hc : es.length + ys.length ≤ c) (hz : zs.length = (c - (es.length + ys.length)) * k)
    (r1 : ∀ (i j : Nat) (e : List PV) (c : PV) (u : Value), es[i]? = some e → e[j]? = some c → olds[i * k + j]? = some u → RelP hp imm c u)
    (r2 : ∀ (i j : Nat) (e : List PV) (c : PV) (u : Value), ys[i]? = some e → e[j]? = some c → news[i * k + j]? = some u → RelP hp imm c u) :
    RelO hp imm (.arr te k (es ++ ys) c) (.cells (olds ++ news ++ zs).toArray te) := by
  refine .arr te k _ c _ ?_ (by simp; omega) (fun e he => ?_) (fun i j e c' u he hcj hu => ?_)
  · simp only [List.size_toArray, List.length_append, h1, h2, hz, ← Nat.add_mul]
    congr 1; omega
  · rcases List.mem_append.1 he with he | he
    · exact hke e he
    · exact hky e he
  · rw [List.getElem?_toArray] at hu
    by_cases hi : i < es.length
    · rw [List.getElem?_append_left hi] at he
      have hj : j < k := by rw [← hke e (List.mem_of_getElem? he)]; exact (List.getElem?_eq_some_iff.1 hcj).1
      have hlt : i * k + j < olds.length := by
        rw [h1]
        have : (i + 1) * k ≤ es.length * k := Nat.mul_le_mul_right k hi
        rw [Nat.succ_mul] at this; omega
      rw [List.append_assoc, List.getElem?_append_left hlt] at hu
      exact r1 i j e c' u he hcj hu
    · rw [List.getElem?_append_right (by omega)] at he
      have hj : j < k := by rw [← hky e (List.mem_of_getElem? he)]; exact (List.getElem?_eq_some_iff.1 hcj).1
      have hi2 : i - es.length < ys.length := (List.getElem?_eq_some_iff.1 he).1
      have hge : olds.length ≤ i * k + j := by rw [h1]; have := Nat.mul_le_mul_right k (by omega : es.length ≤ i); omega
      have hidx : i * k + j - olds.length = (i - es.length) * k + j := by
        rw [h1, Nat.sub_mul]
        have := Nat.mul_le_mul_right k (by omega : es.length ≤ i); omega
      have hlt : (i - es.length) * k + j < news.length := by
        rw [h2]
        have : (i - es.length + 1) * k ≤ ys.length * k := Nat.mul_le_mul_right k hi2
        rw [Nat.succ_mul] at this; omega
      rw [List.append_assoc, List.getElem?_append_right hge, hidx, List.getElem?_append_left hlt] at hu
      exact r2 _ j e c' u he hcj hu

/-- append to a slice that is owned. -/
theorem o_append {t : TypeId} {x y : Operand} {b len cap : Nat} {te k by_ : Nat} {es ys : List (List PV)} {v : AV} (i : Nat) (hx : ev a x = some (.os b k 0 len cap)) (hh : h[i]? = some (b, .arr te k es cap)) (hy : ev a y = some v) [hs : SliceC P t te k by_]
    (hsrc : Src h k v ys) (hok : ∀ z ∈ ys, okB k z = true) (hl : len = es.length) (hroom : es.length + ys.length ≤ 140737488355) (hN : d < N)
    (kk : ∀ b' c', es.length + ys.length ≤ c' → WPs P X N r ops rest Q ds ((d, .os b' k 0 (es.length + ys.length) c') :: a) (h.set i (b', .arr te k (es ++ ys) c'))) :
    WPs P X N r ops (⟨some d, .call { callee := .builtin .append, args := #[x, y], argTypes := #[t, t] }, ty, pos, aft, none⟩ :: rest) Q ds a h :=
  o_run (fun v h' => ∃ b' c', es.length + ys.length ≤ c' ∧ v = .os b' k 0 (es.length + ys.length) c' ∧ h' = h.set i (b', .arr te k (es ++ ys) c')) hN (by intro c e; cases e) (fun act w s => by
    subst hl
    obtain ⟨hu, ii, z, hi, rfl, rfl, hz, hzs, hkpos, hby⟩ := slK_get hs.out
    have hrx := s.ev hx
    have hry := s.ev hy
    obtain ⟨news, n1, n2, n3, n4⟩ := hsrc.cells hok s hry
    obtain ⟨cells, hb, hsz, hcap, hk, hrr⟩ := s.arr hh
    generalize hxv : act.eval x = xv at hrx
    generalize hyv : act.eval y = yv at hry n4
    cases hrx
    rw [Nat.zero_mul] at hxv
    have hbytes : (es.length + ys.length) * ii.bytes ≤ 140737488355328 := Nat.le_trans (Nat.mul_le_mul hroom hby) (by omega)
    have hos : ∀ (q : World) (g : AHeap) (b' c' : Nat), RelA q.heap (Imm X g q) (.os b' ii.size 0 (es.length + ys.length) c') (.slice (some ⟨b', 0, none⟩) (es.length + ys.length) c') := fun q g b' c' => by
      have := RelA.os (hp := q.heap) (imm := Imm X g q) b' ii.size 0 (es.length + ys.length) c'
      rwa [Nat.zero_mul] at this
    rcases n4 with ⟨hyn, hys⟩ | ⟨ad, m, c, hyn, rfl, hcell⟩
    · -- nothing comes
      subst hys
      refine ⟨.slice (some ⟨b, 0, none⟩) es.length cap, w, .os b ii.size 0 (es.length + 0) cap, h, ⟨b, cap, by simpa using hcap, rfl, ?_⟩, ?_, hos w h b cap, s.heap, Ext.refl _ _⟩
      · rw [List.append_nil]; exact (set_same hh).symm
      · refine exec_append ?_
        rw [hxv, hyv, hyn]
        simp [Builtin.append_, run_underlying0 hu, sizeOf, typeInfo, hi, Builtin.lenOf, Builtin.firstCells, loadCells, loadCellsFrom, hcap, Addr.add_lit, storeCells, go_sem, Sem.run_bind]
    · by_cases hrm : es.length + ys.length ≤ cap
      · have hfit : es.length * ii.size + news.length ≤ cells.size := by rw [n1, hsz, ← Nat.add_mul]; exact Nat.mul_le_mul_right _ hrm
        have hr := run_append_room (P := P) w t ty te ii hu hi b es.length cap cells hb ad ys.length c news n1 hcell n2 hrm hfit
        have cg := chg_setRow w b (cells.toList.take (es.length * ii.size) ++ news ++ cells.toList.drop (es.length * ii.size + news.length)).toArray
        have hrel : RelO w.heap (Imm X h w) (.arr te ii.size (es ++ ys) cap) (.cells (cells.toList.take (es.length * ii.size) ++ news ++ cells.toList.drop (es.length * ii.size + news.length)).toArray te) := by
          refine grown_rel (by simp; rw [hsz]; have := Nat.mul_le_mul_right ii.size hcap; omega) n1 hk (fun e he => okB_len (hok e he)) hrm ?_ (fun i j e c u he hc hu => hrr i j e c u he hc ?_) n3
          · simp [n1, hsz, ← Nat.add_mul, ← Nat.sub_mul]
          · rw [List.getElem?_take] at hu
            split at hu
            · simpa using hu
            · cases hu
        obtain ⟨H, E⟩ := s.heap.chg hh cg ⟨_, setRow_heap w b cells _ te (0, 0) hb, hrel.mono (imm_set hh cg)⟩
        refine ⟨_, _, .os b ii.size 0 (es.length + ys.length) cap, _, ⟨b, cap, hrm, rfl, rfl⟩, exec_append (by rw [hxv, hyv, hyn]; exact hr), hos _ _ b cap, H, E⟩
      · have holds : ∀ j u, (cells.toList.take (es.length * ii.size))[j]? = some u → w.cell? ((⟨b, 0, none⟩ : Addr).add j) = some u := by
          intro j u hj
          rw [Addr.add_lit, cell_of_row w b _ cells te (0, 0) hb]
          rw [List.getElem?_take] at hj
          split at hj
          · simpa using hj
          · cases hj
        have hol : (cells.toList.take (es.length * ii.size)).length = es.length * ii.size := by simp; rw [hsz]; have := Nat.mul_le_mul_right ii.size hcap; omega
        have hr := run_append_grow (P := P) w t ty te ii z hu hi hz ⟨b, 0, none⟩ es.length cap _ hol holds ad ys.length c news n1 hcell (by omega) (by omega) (growslice_fits (by omega) hbytes)
        have hge := grownCap_ge w (es.length + ys.length) cap te
        generalize hgc : grownCap w (es.length + ys.length) cap te = gc at hr hge
        have nw := new_drew_alloc w (.cells ((cells.toList.take (es.length * ii.size)).toArray ++ news.toArray ++ Builtin.zeroCells z.cells (gc - (es.length + ys.length))) te)
        have heq : (cells.toList.take (es.length * ii.size)).toArray ++ news.toArray ++ Builtin.zeroCells z.cells (gc - (es.length + ys.length)) = (cells.toList.take (es.length * ii.size) ++ news ++ (Builtin.zeroCells z.cells (gc - (es.length + ys.length))).toList).toArray := by
          apply Array.ext'; simp
        have hrel : RelO w.heap (Imm X h w) (.arr te ii.size (es ++ ys) gc) (.cells ((cells.toList.take (es.length * ii.size)).toArray ++ news.toArray ++ Builtin.zeroCells z.cells (gc - (es.length + ys.length))) te) := by
          rw [heq]
          refine grown_rel hol n1 hk (fun e he => okB_len (hok e he)) hge (by simp [size_zeroCells, hzs]) (fun i j e c u he hc hu => hrr i j e c u he hc ?_) n3
          rw [List.getElem?_take] at hu
          split at hu
          · simpa using hu
          · cases hu
        -- the elder block is let go
        have H0 := s.heap.new nw (hrel.mono (imm_new nw _))
        have hfin : ∀ q, q ∈ dom (h.set i (w.heap.size, OB.arr te ii.size (es ++ ys) gc)) → q = w.heap.size ∨ q ∈ dom h := by
          intro q hq
          obtain ⟨⟨q', o⟩, h1, rfl⟩ := List.mem_map.1 hq
          rcases List.mem_or_eq_of_mem_set h1 with h1 | h1
          · exact .inr (List.mem_map.2 ⟨_, h1, rfl⟩)
          · cases h1; exact .inl rfl
        have hsub : ∀ q o, (q, o) ∈ h.set i (w.heap.size, OB.arr te ii.size (es ++ ys) gc) → ∃ o', (q, o') ∈ (w.heap.size, OB.arr te ii.size (es ++ ys) gc) :: h ∧ FrzO ((w.heap.size, OB.arr te ii.size (es ++ ys) gc) :: h) (h.set i (w.heap.size, OB.arr te ii.size (es ++ ys) gc)) o' o := by
          intro q o ho
          rcases List.mem_or_eq_of_mem_set ho with h1 | h1
          · exact ⟨o, List.mem_cons_of_mem _ h1, .refl _⟩
          · cases h1; exact ⟨_, List.mem_cons_self, .refl _⟩
        have hnd : (dom (h.set i (w.heap.size, OB.arr te ii.size (es ++ ys) gc))).Nodup := by
          have hnotin : w.heap.size ∉ dom h := fun hm => Nat.lt_irrefl _ (s.heap.lt hm)
          have : dom (h.set i (w.heap.size, OB.arr te ii.size (es ++ ys) gc)) = (dom h).set i w.heap.size := by simp [dom, List.map_set]
          rw [this]
          exact nodup_set s.heap.nodup hnotin i
        refine ⟨_, _, .os w.heap.size ii.size 0 (es.length + ys.length) gc, _, ⟨w.heap.size, gc, hge, rfl, rfl⟩, exec_append (by rw [hxv, hyv, hyn]; exact hr), hos _ _ _ gc, H0.1.frz hnd hsub, H0.2.trans (Ext.frz _ (dom_of_frz hsub))⟩)
    fun v h' ⟨b', c', e0, e1, e2⟩ => by subst e1; subst e2; exact kk b' c' e0

/-- append to a slice whose capacity is its length (nil among them), where something comes: a new one. -/
theorem o_appendv {t : TypeId} {x y : Operand} {te k by_ : Nat} {es ys : List (List PV)} {v : AV} (hx : ev a x = some (V es true)) (hy : ev a y = some v) [hs : SliceC P t te k by_]
    (hsrc : Src h k v ys) (hok : ∀ z ∈ ys, okB k z = true) (hke : ∀ e ∈ es, e.length = k) (h0 : 0 < ys.length) (hroom : es.length + ys.length ≤ 140737488355) (hN : d < N)
    (kk : ∀ b c', es.length + ys.length ≤ c' → WPs P X N r ops rest Q ds ((d, .os b k 0 (es.length + ys.length) c') :: a) ((b, .arr te k (es ++ ys) c') :: h)) :
    WPs P X N r ops (⟨some d, .call { callee := .builtin .append, args := #[x, y], argTypes := #[t, t] }, ty, pos, aft, none⟩ :: rest) Q ds a h :=
  o_newsl hN (by intro c e; cases e) (cap := es.length + ys.length) (fun act w s => by
    obtain ⟨hu, ii, z, hi, rfl, rfl, hz, hzs, hkpos, hby⟩ := slK_get hs.out
    have hrx := s.ev hx
    have hry := s.ev hy
    obtain ⟨news, n1, n2, n3, n4⟩ := hsrc.cells hok s hry
    generalize hxv : act.eval x = xv at hrx
    generalize hyv : act.eval y = yv at hry n4
    have hbytes : (es.length + ys.length) * ii.bytes ≤ 140737488355328 := Nat.le_trans (Nat.mul_le_mul hroom hby) (by omega)
    rcases n4 with ⟨hyn, hys⟩ | ⟨ad, m, c, hyn, rfl, hcell⟩
    · subst hys; simp at h0
    · cases hrx with
      | p hp =>
        cases hp with
        | nil =>
          have hr := run_append_nil (P := P) w t ty te ii z hu hi hz ad ys.length c news n1 hcell h0 (by simp at hroom; omega) (by simp only [List.length_nil, Nat.zero_add] at hbytes; omega)
          have hge := grownCap_ge w ys.length 0 te
          generalize hgc : grownCap w ys.length 0 te = gc at hr hge
          have nw := new_drew_alloc w (.cells (news.toArray ++ Builtin.zeroCells z.cells (gc - ys.length)) te)
          have heq : news.toArray ++ Builtin.zeroCells z.cells (gc - ys.length) = ([] ++ news ++ (Builtin.zeroCells z.cells (gc - ys.length)).toList).toArray := by
            apply Array.ext'; simp
          have hrel : RelO w.heap (Imm X h w) (.arr te ii.size ([] ++ ys) gc) (.cells (news.toArray ++ Builtin.zeroCells z.cells (gc - ys.length)) te) := by
            rw [heq]
            exact grown_rel (by simp) n1 (by simp) (fun e he => okB_len (hok e he)) (by simpa using hge) (by simp [size_zeroCells, hzs]) (fun i j e c u he => by simp at he) n3
          refine ⟨_, _, gc, by simpa using hge, exec_append (by rw [hxv, hyv, hyn]; simpa using hr), nw, hrel.mono (imm_new nw _)⟩
        | vs _ _ b off k' cap cells bty fz hb him hf hc hsz hk hrr =>
          have hcap := hf rfl
          have holds : ∀ j u, ((cells.toList.drop off).take (es.length * ii.size))[j]? = some u → w.cell? ((⟨b, off, none⟩ : Addr).add j) = some u := by
            intro j u hj
            rw [Addr.add_lit, cell_of_row w b _ cells bty fz hb]
            rw [List.getElem?_take] at hj
            split at hj
            · rw [List.getElem?_drop] at hj; simpa using hj
            · cases hj
          have hkk : es.length * k' = es.length * ii.size := by
            cases hes : es with
            | nil => simp
            | cons e r => rw [← hk e (by simp [hes]), hke e (by simp [hes])]
          have hol : ((cells.toList.drop off).take (es.length * ii.size)).length = es.length * ii.size := by simp; omega
          have hr := run_append_grow (P := P) w t ty te ii z hu hi hz ⟨b, off, none⟩ es.length cap _ hol holds ad ys.length c news n1 hcell (by omega) (by omega) (growslice_fits (by omega) hbytes)
          have hge := grownCap_ge w (es.length + ys.length) cap te
          generalize hgc : grownCap w (es.length + ys.length) cap te = gc at hr hge
          have nw := new_drew_alloc w (.cells (((cells.toList.drop off).take (es.length * ii.size)).toArray ++ news.toArray ++ Builtin.zeroCells z.cells (gc - (es.length + ys.length))) te)
          have heq : ((cells.toList.drop off).take (es.length * ii.size)).toArray ++ news.toArray ++ Builtin.zeroCells z.cells (gc - (es.length + ys.length)) = ((cells.toList.drop off).take (es.length * ii.size) ++ news ++ (Builtin.zeroCells z.cells (gc - (es.length + ys.length))).toList).toArray := by
            apply Array.ext'; simp
          have hrel : RelO w.heap (Imm X h w) (.arr te ii.size (es ++ ys) gc) (.cells (((cells.toList.drop off).take (es.length * ii.size)).toArray ++ news.toArray ++ Builtin.zeroCells z.cells (gc - (es.length + ys.length))) te) := by
            rw [heq]
            refine grown_rel hol n1 hke (fun e he => okB_len (hok e he)) hge (by simp [size_zeroCells, hzs]) (fun i j e c u he hc hu => ?_) n3
            rw [List.getElem?_take] at hu
            split at hu
            · rw [List.getElem?_drop] at hu
              have hkk2 : k' = ii.size := by rw [← hk e (List.mem_of_getElem? he), hke e (List.mem_of_getElem? he)]
              exact hrr i j e c u he hc (by rw [hkk2, Nat.add_assoc]; simpa using hu)
            · cases hu
          exact ⟨_, _, gc, hge, exec_append (by rw [hxv, hyv, hyn]; exact hr), nw, hrel.mono (imm_new nw _)⟩) kk

/-- The same slice, nobody's own: plain data. -/
theorem o_appendp {t : TypeId} {x y : Operand} {te k by_ : Nat} {es ys : List (List PV)} {v : AV} (hx : ev a x = some (V es true)) (hy : ev a y = some v) [hs : SliceC P t te k by_]
    (hsrc : Src h k v ys) (hok : ∀ z ∈ ys, okB k z = true) (hke : ∀ e ∈ es, e.length = k) (h0 : 0 < ys.length) (hroom : es.length + ys.length ≤ 140737488355) (hN : d < N)
    (kk : WPs P X N r ops rest Q ds ((d, V (es ++ ys) false) :: a) h) :
    WPs P X N r ops (⟨some d, .call { callee := .builtin .append, args := #[x, y], argTypes := #[t, t] }, ty, pos, aft, none⟩ :: rest) Q ds a h :=
  o_appendv hx hy hsrc hok hke h0 hroom hN fun b c' hc' => by
    refine o_frz h (fun hn => (List.nodup_cons.1 hn).2) (fun b o ho => ⟨o, List.mem_cons_of_mem _ ho, .refl _⟩) (fun hn t v hv => ?_) kk
    by_cases ht : d = t
    · subst ht
      rw [lk_same] at hv; cases hv
      refine ⟨_, lk_same _ _ _, ?_⟩
      have := FrzA.os (h := (b, OB.arr te k (es ++ ys) c') :: h) (h' := h) b k 0 (es.length + ys.length) c' te (es ++ ys) c' false List.mem_cons_self (List.nodup_cons.1 hn).1 (by simp) hc' (by simp)
      rw [List.drop_zero, List.take_of_length_le (by simp)] at this
      exact this
    · rw [lk_other _ _ ht] at hv
      exact ⟨v, by rw [lk_other _ _ ht]; exact hv, .refl _⟩
end

/-! ### how a function hands back -/
section
variable {P : Program} {a : Tmps} {h : AHeap}
theorem ret1 {R : AEnd → AHeap → Prop} {t : Tmp} {v : AV} (hv : lk a t = some v) (k : R (.ret v) []) : RetP P [.tmp t] R [] a h :=
  ⟨[], [v], v, [], rfl, List.nodup_nil, (by intro D hD; cases hD), .cons (.tmp hv) .nil, .refl _, (fun _ => List.nodup_nil), (by intro b o h; cases h), k⟩
theorem ret2 {R : AEnd → AHeap → Prop} {t u : Tmp} {v x : AV} (hv : lk a t = some v) (hx : lk a u = some x) (k : R (.ret (.tup [v, x])) []) : RetP P [.tmp t, .tmp u] R [] a h :=
  ⟨[], [v, x], .tup [v, x], [], rfl, List.nodup_nil, (by intro D hD; cases hD), .cons (.tmp hv) (.cons (.tmp hx) .nil), .refl _, (fun _ => List.nodup_nil), (by intro b o h; cases h), k⟩
theorem ret3 {R : AEnd → AHeap → Prop} {t u s : Tmp} {v x y : AV} (hv : lk a t = some v) (hx : lk a u = some x) (hy : lk a s = some y) (k : R (.ret (.tup [v, x, y])) []) : RetP P [.tmp t, .tmp u, .tmp s] R [] a h :=
  ⟨[], [v, x, y], .tup [v, x, y], [], rfl, List.nodup_nil, (by intro D hD; cases hD), .cons (.tmp hv) (.cons (.tmp hx) (.cons (.tmp hy) .nil)), .refl _, (fun _ => List.nodup_nil), (by intro b o h; cases h), k⟩
/-- A function that only computes, its one result in a temporary. -/
theorem ret1' {t : Tmp} {v x : AV} (hv : lk a t = some v) (k : v = x) : RetP P [.tmp t] (fun E h' => ∃ r, E = .ret r ∧ r = x ∧ h' = []) [] a h := ret1 hv ⟨_, rfl, k, rfl⟩
theorem ret2' {t u : Tmp} {v x z : AV} (hv : lk a t = some v) (hx : lk a u = some x) (k : .tup [v, x] = z) : RetP P [.tmp t, .tmp u] (fun E h' => ∃ r, E = .ret r ∧ r = z ∧ h' = []) [] a h := ret2 hv hx ⟨_, rfl, k, rfl⟩
theorem ret3' {t u s : Tmp} {v x y z : AV} (hv : lk a t = some v) (hx : lk a u = some x) (hy : lk a s = some y) (k : .tup [v, x, y] = z) : RetP P [.tmp t, .tmp u, .tmp s] (fun E h' => ∃ r, E = .ret r ∧ r = z ∧ h' = []) [] a h := ret3 hv hx hy ⟨_, rfl, k, rfl⟩
theorem B_eq {x y : Bool} (h : x = y) : B x = B y := by rw [h]
theorem I_eq {x y : Int} (h : x = y) : I x = I y := by rw [h]
end
end Go.Proofs.YtnoicbajhlpndaaGreat.Hp
/- Loops over functions: what yield does, what an iterator does with it, and the loop that hands it its body. -/
namespace Go.Proofs.YtnoicbajhlpndaaGreat.Hp
open Go Go.RowKit Go.Shelf
set_option linter.unusedVariables false
set_option linter.unusedSimpArgs false

theorem not_of {x y : Bool} (h : (!x) = y) : x = !y := by rw [← h, Bool.not_not]

/-- What a call of yield does: the round's record among what is owned. -/
def YdX (P : Program) (X : Ctx) (l : Nat) (args : List AV) (h : AHeap) (R : Bool → AHeap → Prop) : Prop :=
  ∀ (w : World) (vals : Array Value), Holds X h w → RelAs w.heap (Imm X h w) args vals → ∀ n,
    YieldAt Fence.wide n P l vals w fun e w' => ∃ b h', R b h' ∧ e = .returned (.bool b) ∧ Holds X h' w' ∧ Ext h w h' w'

section
variable {P : Program} {X : Ctx} {N : Nat} {r : Option Nat} {Q : Post} {ds : List Deferred} {a : Tmps} {h : AHeap}
variable {ops : Array Oper} {rest : List Oper} {d : Tmp} {ty : TypeId} {pos : String} {aft : Array Edge}

theorem run_call_yield {g : Operand} {xs : Array Operand} {ats : Array TypeId} {l : Nat} {act : Act} {w : World} (dst : Option Tmp) (gd : Option (Nat × Bool)) (hg : act.eval g = .func (.yield l) #[] #[]) :
    (execOp act.eval ⟨dst, .call { callee := .value g, args := xs, argTypes := ats }, ty, pos, aft, gd⟩).run P w = (Instr.yield l (#[] ++ xs.map act.eval)).run P w := by
  simp [execOp, resolve, Deferred.ofValue, hg, invoke, bind, Sem.bind, pure]

/-- An iterator calls yield. -/
theorem o_yield {g : Operand} {xs : Array Operand} {ats : Array TypeId} {l : Nat} {vs : List AV} {h1 h2 : AHeap} {R : Bool → AHeap → Prop} (hg : ev a g = some (.yl l)) (hx : evs a xs.toList = some vs) (hN : d < N) (hsp : Split h h1 h2)
    (hs : YdX P (Aside X h2) l vs h1 R) (k : ∀ b h', R b h' → WPs P X N none ops rest Q ds ((d, B b) :: a) (h' ++ h2)) :
    WPs P X N none ops (⟨some d, .call { callee := .value g, args := xs, argTypes := ats }, ty, pos, aft, none⟩ :: rest) Q ds a h := by
  refine o_perm hsp.perm ?_
  intro act w s n
  have hrg := s.ev hg
  have hvs := s.evs hx
  generalize hgv : act.eval g = gv at hrg
  cases hrg
  simp only [opsIn, Region.wanted, if_true]
  refine ⟨fun f _ => trivial, ?_⟩
  have hargs : RelAs w.heap (Imm (Aside X h2) h1 w) vs (#[] ++ xs.map act.eval) := by
    have h4 := hvs.mono (imm' := Imm (Aside X h2) h1 w) (hp' := w.heap) fun b hb => ⟨Imm.part.2 hb, fun o h => h⟩
    have e : (#[] ++ xs.map act.eval) = (xs.toList.map act.eval).toArray := by apply Array.ext'; simp
    rw [e]; exact h4
  obtain ⟨fn, tmps, assign, body, hy, hR⟩ := hs w _ s.heap.part hargs (n - 1)
  rw [Oper.semAt_eq _ _ _ (by intro c h; cases h), run_call_yield _ _ hgv, hy]
  refine ⟨fun h => (by simp [Fr, Fence.wide] at h), ?_⟩
  refine RoundIn.mono (R := fun e w' => ∃ b h', R b h' ∧ e = .returned (.bool b) ∧ Holds (Aside X h2) h' w' ∧ Ext h1 w h' w') hR ?_
  rintro e w' ⟨b, h', hRb, rfl, hH, hx⟩
  have HJ := s.heap.join hH hx
  have EJ : Ext (h1 ++ h2) w (h' ++ h2) w' := hx.join
  exact opsIn_mono (fun e a2 w2 p => post_ext EJ p) _ _ _ (k b h' hRb _ _ (s.put EJ HJ hN (.p (.raw _))) n)

/-- An iterator: it yields the elements of es, one after the other, till yield says no; then it returns. J i: what the loop's body owns when i of them have come; Jx: what it owns when it has said no. -/
def IterX (P : Program) (X : Ctx) (g : FuncId) (caps : List AV) (hI : AHeap) (es : List (List AV)) : Prop :=
  ∀ (l : Nat) (J : Nat → AHeap → Prop) (Jx : AHeap → Prop) (hB : AHeap),
    (∀ X' : Ctx, X'.gh = X.gh → ∀ i args h1, es[i]? = some args → J i h1 → YdX P X' l args h1 fun b h' => (b = true ∧ J (i + 1) h') ∨ (b = false ∧ Jx h')) → J 0 hB →
    FnX P X g (.yl l :: caps) (hI ++ hB) fun E h' => E = .ret (.tup []) ∧ (J es.length h' ∨ Jx h')

/-- The context of a round: the temporaries of the loop's function are known still. -/
def Ctx.with (X : Ctx) (a : Tmps) (act : Act) : Ctx where
  no := X.no
  gh := fun hp imm => X.gh hp imm ∧ ∀ t v, lk a t = some v → ∃ x, act.tmps[t]? = some x ∧ RelA hp imm v x
  mono := fun hp hp' imm imm' hm h => ⟨X.mono hp hp' imm imm' hm h.1, fun t v hv => by obtain ⟨x, h1, h2⟩ := h.2 t v hv; exact ⟨x, h1, h2.cellsMono hm⟩⟩

def putT : List Tmp → List AV → Tmps → Tmps
  | p :: ps, v :: vs, a => putT ps vs ((p, v) :: a)
  | _, _, a => a

theorem putT_rel {hp : Array Obj} {imm : Nat → Prop} : ∀ {ps : List Tmp} {vs : List AV} {xs : List Value} {a : Tmps} {tmps : Array Value}, ps.length = vs.length → (∀ p ∈ ps, p < tmps.size) → xs.length = vs.length →
    (∀ (i : Nat) c v, vs[i]? = some c → xs[i]? = some v → RelA hp imm c v) → (∀ t v, lk a t = some v → ∃ x, tmps[t]? = some x ∧ RelA hp imm v x) →
    (∀ t v, lk (putT ps vs a) t = some v → ∃ x, ((ps.zip xs).foldl (fun t (q : Tmp × Value) => t.setIfInBounds q.1 q.2) tmps)[t]? = some x ∧ RelA hp imm v x) ∧ ((ps.zip xs).foldl (fun t (q : Tmp × Value) => t.setIfInBounds q.1 q.2) tmps).size = tmps.size := by
  intro ps
  induction ps with
  | nil =>
    intro vs xs a tmps h1 h2 h3 h4 h5
    cases vs with
    | nil => exact ⟨h5, rfl⟩
    | cons => simp at h1
  | cons p ps ih =>
    intro vs xs a tmps h1 h2 h3 h4 h5
    cases vs with
    | nil => simp at h1
    | cons v vs =>
      cases xs with
      | nil => simp at h3
      | cons x xs =>
        simp only [putT, List.zip_cons_cons, List.foldl_cons]
        have := ih (vs := vs) (xs := xs) (a := (p, v) :: a) (tmps := tmps.setIfInBounds p x) (by simpa using h1) (fun q hq => by simpa using h2 q (by simp [hq])) (by simpa using h3)
          (fun i c y hc hy => h4 (i + 1) c y (by simpa using hc) (by simpa using hy)) (fun t u hu => by
            by_cases ht : p = t
            · subst ht; rw [lk_same] at hu; cases hu
              exact ⟨x, by simp [h2 p (by simp)], h4 0 _ _ rfl rfl⟩
            · rw [lk_other _ _ ht] at hu
              obtain ⟨y, g1, g2⟩ := h5 t u hu
              exact ⟨y, by rw [Array.getElem?_setIfInBounds_ne ht]; exact g1, g2⟩)
        exact ⟨this.1, by simpa using this.2⟩

/-- How a round's body is left. -/
def roundQ (K : AHeap → Prop) (Kx : Code → AHeap → Prop) : Post
  | .normal, _, _, h => K h
  | .ret, _, _, h => Kx .ret h
  | .exit id, _, _, h => Kx (.exit id) h
  | .goto t, _, _, h => Kx (.goto t) h
  | _, _, _, _ => False

/-- A block that is set aside turns: what is known stays. -/
theorem imm_aside {X : Ctx} {h : AHeap} {w w' : World} {l : Nat} (hl : X.no l) (c : Chg w w' l) : ∀ b, Imm X h w b → Imm X h w' b ∧ ∀ o, w.heap[b]? = some o → w'.heap[b]? = some o :=
  fun b hb => ⟨⟨by rw [c.size]; exact hb.1, hb.2.1, hb.2.2⟩, fun o ho => (c.other b fun e => hb.2.2 (e ▸ hl)).trans ho⟩
theorem Holds.aside {X : Ctx} {h : AHeap} {w w' : World} {l : Nat} (H : Holds X h w) (hl : X.no l) (c : Chg w w' l) : Holds X h w' :=
  ⟨H.nodup, H.nox, fun b hb => by rw [c.size]; exact H.xlt b hb, X.mono' (imm_aside hl c) H.gh, fun b o ho => by
    obtain ⟨ob, h1, h2⟩ := H.rel b o ho
    have hbl : b ≠ l := fun e => H.nox b (List.mem_map.2 ⟨_, ho, rfl⟩) (e ▸ hl)
    exact ⟨ob, (c.other b hbl).trans h1, h2.mono (imm_aside hl c)⟩⟩
theorem St.aside {X : Ctx} {w' : World} {l : Nat} {act : Act} {w : World} (s : St X N ds a h act w) (hl : X.no l) (c : Chg w w' l) : St X N ds a h act w' :=
  ⟨s.size, s.defers, fun t v hv => let ⟨x, hx, hr⟩ := s.tm t v hv; ⟨x, hx, hr.mono (imm_aside hl c)⟩, s.heap.aside hl c⟩
theorem chg_putObj (w : World) (l : Nat) (o : Obj) : Chg w (w.putObj l o) l := ⟨rfl, rfl, rfl, by simp [World.putObj], fun c hc => World.putObj_heap_other hc⟩

/-- **A loop over a function.** -/
theorem h_rangeFunc {g : Operand} {ps : Array Tmp} {assign body : Code} {gf : FuncId} {caps : List AV} {hI hB : AHeap} {es : List (List AV)} (hg : ev a g = some (.fn gf caps)) (he : Enters P gf) (hsp : Split h hI hB) (hps : ∀ p ∈ ps.toList, p < N)
    (it : ∀ Y : Ctx, IterX P Y gf caps hI es) (hlen : ∀ args ∈ es, args.length = ps.size)
    (I : Nat → AHeap → Prop) (Ix : Code → AHeap → Prop) (h0 : I 0 hB)
    (hround : ∀ (Y : Ctx) (l i : Nat) (args : List AV) (h1 : AHeap), es[i]? = some args → I i h1 →
      WP P Y N (some l) assign (thn (WP P Y N (some l) body (roundQ (I (i + 1)) Ix)) fun _ _ _ _ => False) [] (putT ps.toList args a) h1)
    (hdone : ∀ (D : Nat) (h' : AHeap), I es.length h' → Q .normal ({ target := .collected D, args := #[] } :: ds) a ((D, .obj (.deferred (some []))) :: h'))
    (hstop : ∀ (c : Code) (D : Nat) (h' : AHeap), Ix c h' → WP P X N none c Q ({ target := .collected D, args := #[] } :: ds) a ((D, .obj (.deferred (some []))) :: h')) :
    WP P X N none (.rangeFunc g ps assign body) Q ds a h := by
  intro act w s n
  refine wpIn_rangeFunc ?_
  intro fn hfn
  have hrg := s.ev hg
  generalize hgv : act.eval g = gv at hrg
  cases hrg with
  | fn _ _ cvals hcs hcr =>
  obtain ⟨rec, hrec⟩ : ∃ rec : LoopState → Option Code → Loop, rec = fun st pe => { state := st, pending := pe, fn, tmps := act.tmps, params := ps, assign, body, defers := w.heap.size } := ⟨_, rfl⟩
  obtain ⟨W1, hW1⟩ : ∃ W1, (w.alloc (.deferred (some []))).alloc (.loop (rec .ready none)) = W1 := ⟨_, rfl⟩
  have n1 := new_alloc w (.deferred (some []))
  have n2 := new_alloc (w.alloc (.deferred (some []))) (.loop (rec .ready none))
  have hsz1 : (w.alloc (.deferred (some []))).heap.size = w.heap.size + 1 := n1.size
  obtain ⟨l, hl⟩ : ∃ l, l = w.heap.size + 1 := ⟨_, rfl⟩
  rw [hW1] at n2
  have Y0 : Holds (X.with a act) h w := ⟨s.heap.nodup, s.heap.nox, s.heap.xlt, ⟨s.heap.gh, s.tm⟩, s.heap.rel⟩
  obtain ⟨H1, E1⟩ := Y0.new n1 (.obj _)
  obtain ⟨H2, E2⟩ := H1.new n2 (.obj _)
  rw [hsz1, ← hl] at H2 E2
  have hp : ((l, OB.obj (.loop (rec .ready none))) :: (w.heap.size, OB.obj (.deferred (some []))) :: h).Perm (hI ++ ((l, OB.obj (.loop (rec .ready none))) :: (w.heap.size, OB.obj (.deferred (some []))) :: hB)) := by
    refine ((hsp.perm.cons _).cons _).trans ?_
    exact ((List.perm_middle (l₁ := hI) (l₂ := (w.heap.size, OB.obj (.deferred (some []))) :: hB)).trans ((List.perm_middle (l₁ := hI) (l₂ := hB)).cons _)).symm
  have H3 := H2.perm hp
  have E3 : Ext h w (hI ++ ((l, OB.obj (.loop (rec .ready none))) :: (w.heap.size, OB.obj (.deferred (some []))) :: hB)) W1 := (E1.trans E2).trans (Ext.perm W1 hp)
  refine ⟨l, [{ target := .collected w.heap.size, args := #[] }], W1, { target := .fn (.func gf) cvals, args := #[.func (.yield l) #[] #[]] }, W1, gf, #[.func (.yield l) #[] #[]] ++ cvals, W1, ?_, ?_, fun _ _ => trivial, ?_, fun hh => by simp [Fr, Fence.wide] at hh, ?_⟩
  · rw [← hW1, hrec, hl]; exact run_enterLoop_outer _ _ _ _ _
  · simp only [resolve, hgv]
    simp [rangeCall, Deferred.ofValue, hgv, go_sem]
  · simp only [invoke]; exact he _ _
  have hargs : RelAs W1.heap (Imm (X.with a act) (hI ++ ((l, OB.obj (.loop (rec .ready none))) :: (w.heap.size, OB.obj (.deferred (some []))) :: hB)) W1) (.yl l :: caps) (#[.func (.yield l) #[] #[]] ++ cvals) := by
    have q1 : RelAs W1.heap (Imm (X.with a act) (hI ++ ((l, OB.obj (.loop (rec .ready none))) :: (w.heap.size, OB.obj (.deferred (some []))) :: hB)) W1) [.yl l] #[.func (.yield l) #[] #[]] := ⟨rfl, fun i c v hc hv => by
      cases i with
      | zero => simp at hc hv; subst hc; subst hv; exact .yl l
      | succ i => simp at hc⟩
    have q2 : RelAs w.heap (Imm (X.with a act) h w) caps cvals := ⟨hcs, hcr⟩
    have := q1.append (q2.mono E3.imm)
    simpa using this
  have hcall := it (X.with a act) l
    (fun i hh => ∃ h1, hh = (l, OB.obj (.loop (rec .ready none))) :: (w.heap.size, OB.obj (.deferred (some []))) :: h1 ∧ I i h1)
    (fun hh => ∃ c h1, hh = (l, OB.obj (.loop (rec .done (some c)))) :: (w.heap.size, OB.obj (.deferred (some []))) :: h1 ∧ Ix c h1)
    ((l, OB.obj (.loop (rec .ready none))) :: (w.heap.size, OB.obj (.deferred (some []))) :: hB) ?_ ⟨hB, rfl, h0⟩ W1 _ H3 hargs
  · -- behind the iterator
    refine CallsIn.mono (R := _) (callsIn_wide.2 hcall) ?_
    rintro e W2 ⟨E, h', ⟨rfl, hJ⟩, hE, hH, hx⟩
    cases hE with
    | ret hv =>
    have hfin : ∀ (st : LoopState) (pe : Option Code) (h1 : AHeap), h' = (l, OB.obj (.loop (rec st pe))) :: (w.heap.size, OB.obj (.deferred (some []))) :: h1 → st ≠ .busy →
        ∃ oo : Obj, (Instr.endLoop l).run P W2 = .ok pe (W2.putObj l oo) ∧
        St X N ({ target := .collected w.heap.size, args := #[] } :: ds) a ((w.heap.size, OB.obj (.deferred (some []))) :: h1) { act with defers := { target := .collected w.heap.size, args := #[] } :: act.defers } (W2.putObj l oo) ∧
        Ext h w ((w.heap.size, OB.obj (.deferred (some []))) :: h1) (W2.putObj l oo) := by
      intro st pe h1 hh hst
      subst hh
      obtain ⟨ob, g1, g2⟩ := hH.rel l _ List.mem_cons_self
      cases g2
      obtain ⟨oo, hend, hoz⟩ : ∃ oo : Obj, (Instr.endLoop l).run P W2 = .ok pe (W2.putObj l oo) ∧ Thaw oo := by
        have q := run_endLoop (P := P) g1 (by rw [hrec]; exact hst)
        rw [hrec] at q
        exact ⟨_, q, fun _ => rfl⟩
      have hnd := hH.nodup
      have hlno : l ∉ dom ((w.heap.size, OB.obj (.deferred (some []))) :: h1) := (List.nodup_cons.1 hnd).1
      have hsub : ∀ b, b ∈ dom ((w.heap.size, OB.obj (.deferred (some []))) :: h1) → b ∈ dom ((l, OB.obj (.loop (rec st pe))) :: (w.heap.size, OB.obj (.deferred (some []))) :: h1) := fun b hb => List.mem_cons_of_mem _ hb
      have cg := chg_putObj W2 l oo
      have hcm : ∀ b, Imm X ((l, OB.obj (.loop (rec st pe))) :: (w.heap.size, OB.obj (.deferred (some []))) :: h1) W2 b → Imm X ((w.heap.size, OB.obj (.deferred (some []))) :: h1) (W2.putObj l oo) b ∧ ∀ c t f, W2.heap[b]? = some (.cells c t f) → (W2.putObj l oo).heap[b]? = some (.cells c t f) := by
        intro b hb
        refine ⟨⟨by rw [cg.size]; exact hb.1, fun hm => hb.2.1 (hsub b hm), hb.2.2⟩, fun c t f hc => ?_⟩
        rw [cg.other b (fun e => by subst e; rw [g1] at hc; cases hc)]; exact hc
      refine ⟨oo, hend, ⟨s.size, by rw [s.defers], fun t v hv => ?_, ⟨(List.nodup_cons.1 hnd).2, fun b hb => hH.nox b (hsub b hb), fun b hb => by rw [cg.size]; exact hH.xlt b hb, X.mono _ _ _ _ hcm hH.gh.1, fun b o ho => ?_⟩⟩, ?_⟩
      · obtain ⟨x, q1, q2⟩ := hH.gh.2 t v hv
        exact ⟨x, q1, q2.cellsMono hcm⟩
      · obtain ⟨ob, q1, q2⟩ := hH.rel b o (List.mem_cons_of_mem _ ho)
        have hbl : b ≠ l := fun e => hlno (e ▸ List.mem_map.2 ⟨_, ho, rfl⟩)
        exact ⟨ob, (cg.other b hbl).trans q1, q2.cellsMono hcm⟩
      · have E4 := E3.trans hx
        refine ⟨cg.os.trans E4.os, cg.tape.trans E4.tape, cg.output.trans E4.output, by rw [cg.size]; exact E4.size, fun b hb hn => ?_, fun b hb hm => E4.own b hb (hsub b hm), fun b off => ?_⟩
        · rw [cg.other b (by omega)]; exact E4.keep b hb hn
        · by_cases hbl : b = l
          · subst hbl
            rw [← E4.fz, g1, World.putObj_heap_same (Array.getElem?_eq_some_iff.1 g1).1, hoz off]; rfl
          · rw [cg.other b hbl]; exact E4.fz b off
    rcases hJ with ⟨h1, hh, hI1⟩ | ⟨c, h1, hh, hIx⟩
    · obtain ⟨oo, q1, q2, q3⟩ := hfin .ready none h1 hh (by simp)
      exact ⟨none, _, q1, _, _, _, hdone _ h1 hI1, q2, q3⟩
    · obtain ⟨oo, q1, q2, q3⟩ := hfin .done (some c) h1 hh (by simp)
      exact ⟨some c, _, q1, wpIn_mono (hstop c _ h1 hIx _ _ q2 n) fun e a2 w2 p => post_ext q3 p⟩
  · -- one round
    rintro X' hX' i args h1' hes ⟨h1, rfl, hI1⟩ w' vals hH hv m
    have hal : args.length = ps.size := hlen args (List.mem_of_getElem? hes)
    obtain ⟨ob, g1, g2⟩ := hH.rel l _ List.mem_cons_self
    cases g2
    have hvs : vals.size = ps.size := by rw [hv.1, hal]
    have hy := run_yield (P := P) (args := vals) g1 (by rw [hrec]; exact hvs)
    rw [hrec] at hy
    refine ⟨fn, _, assign, body, hy, roundIn_of_wpIn trivial ?_⟩
    have hlD : l ≠ w.heap.size := by omega
    have hnd := hH.nodup
    have hp2 : ((l, OB.obj (.loop (rec .ready none))) :: (w.heap.size, OB.obj (.deferred (some []))) :: h1).Perm (h1 ++ [(l, OB.obj (.loop (rec .ready none))), (w.heap.size, OB.obj (.deferred (some [])))]) :=
      List.perm_append_comm (l₁ := [(l, OB.obj (.loop (rec .ready none))), (w.heap.size, OB.obj (.deferred (some [])))]) (l₂ := h1)
    have HP := hH.perm hp2
    have HY := HP.part
    obtain ⟨Y, hYd⟩ : ∃ Y, Y = Aside X' [(l, OB.obj (.loop (rec .ready none))), (w.heap.size, OB.obj (.deferred (some [])))] := ⟨_, rfl⟩
    rw [← hYd] at HY
    have hYl : Y.no l := by rw [hYd]; exact .inr (by simp)
    have himm : ∀ b, Imm X' ((l, OB.obj (.loop (rec .ready none))) :: (w.heap.size, OB.obj (.deferred (some []))) :: h1) w' b → Imm Y h1 w' b ∧ ∀ o, w'.heap[b]? = some o → w'.heap[b]? = some o := by
      intro b hb
      refine ⟨?_, fun o ho => ho⟩
      rw [hYd]
      refine Imm.part.2 ⟨hb.1, fun hm => hb.2.1 ((hp2.map Prod.fst).mem_iff.2 hm), hb.2.2⟩
    have hgh : X'.gh w'.heap (Imm X' ((l, OB.obj (.loop (rec .ready none))) :: (w.heap.size, OB.obj (.deferred (some []))) :: h1) w') := hH.gh
    rw [hX'] at hgh
    have htm := putT_rel (hp := w'.heap) (imm := Imm Y h1 w') (ps := ps.toList) (vs := args) (xs := vals.toList) (a := a) (tmps := act.tmps) (by simp [hal]) (fun p hp => by rw [s.size]; exact hps p hp) (by simp [hvs, hal])
      (fun i c v hc hv' => (hv.2 i c v hc (by simpa using hv')).mono himm) (fun t v hv' => by obtain ⟨x, q1, q2⟩ := hgh.2 t v hv'; exact ⟨x, q1, q2.mono himm⟩)
    have hfold : (ps.zip vals).foldl (fun t (q : Tmp × Value) => t.setIfInBounds q.1 q.2) act.tmps = (ps.toList.zip vals.toList).foldl (fun t (q : Tmp × Value) => t.setIfInBounds q.1 q.2) act.tmps := by
      rw [← Array.foldl_toList, Array.toList_zip]
    have S0 : St Y N [] (putT ps.toList args a) h1 { tmps := (ps.zip vals).foldl (fun t (q : Tmp × Value) => t.setIfInBounds q.1 q.2) act.tmps, defers := [] } w' := by
      refine ⟨?_, rfl, fun t v hv' => ?_, HY⟩
      · show ((ps.zip vals).foldl _ act.tmps).size = N
        rw [hfold, htm.2, s.size]
      · show ∃ x, ((ps.zip vals).foldl _ act.tmps)[t]? = some x ∧ _
        rw [hfold]; exact htm.1 t v hv'
    refine wpIn_mono (hround Y l i args h1 hes hI1 _ w' S0 m) ?_
    rintro e a1 w1 ⟨ds1, a1', h2, q, s1, x1⟩
    have hll : l < w'.heap.size := (Array.getElem?_eq_some_iff.1 g1).1
    have hlh1 : l ∉ dom h1 := fun hm => (List.nodup_cons.1 hnd).1 (List.mem_cons_of_mem _ hm)
    cases e with
    | normal =>
      have q' : WP P Y N (some l) body (roundQ (I (i + 1)) Ix) ds1 a1' h2 := q
      have hl1 : w1.heap[l]? = some (.loop (rec .ready none)) := (x1.keep l hll hlh1).trans g1
      have hbr := run_beginRound (P := P) hl1 (by rw [hrec])
      refine ⟨_, hbr, ?_⟩
      have cg1 := chg_putObj w1 l (.loop { rec .ready none with state := .busy })
      have s2 := s1.aside hYl cg1
      refine wpIn_mono (q' _ _ s2 m) ?_
      rintro e2 a2 w3 ⟨ds2, a2', h3, q3, s3, x3⟩
      have hl2 : (w1.putObj l (.loop { rec .ready none with state := .busy })).heap[l]? = some (.loop { rec .ready none with state := .busy }) := World.putObj_heap_same (Array.getElem?_eq_some_iff.1 hl1).1
      have hlh2 : l ∉ dom h2 := fun hm => s1.heap.nox l hm hYl
      have hl3 : w3.heap[l]? = some (.loop { rec .ready none with state := .busy }) := (x3.keep l (by rw [cg1.size]; exact (Array.getElem?_eq_some_iff.1 hl1).1) hlh2).trans hl2
      -- the world with the record as it was
      obtain ⟨w4, hw4⟩ : ∃ w4, w4 = w3.putObj l (.loop (rec .ready none)) := ⟨_, rfl⟩
      have cg3 : Chg w3 w4 l := by rw [hw4]; exact chg_putObj w3 l _
      have hl4 : w4.heap[l]? = some (.loop (rec .ready none)) := by rw [hw4]; exact World.putObj_heap_same (Array.getElem?_eq_some_iff.1 hl3).1
      have HY4 : Holds Y h3 w4 := s3.heap.aside hYl cg3
      have E4 : Ext h1 w' h3 w4 := by
        have hsz : w'.heap.size ≤ w4.heap.size := by rw [cg3.size]; exact Nat.le_trans x1.size (by have := x3.size; rw [cg1.size] at this; exact this)
        refine ⟨(cg3.os.trans x3.os).trans (cg1.os.trans x1.os), (cg3.tape.trans x3.tape).trans (cg1.tape.trans x1.tape), (cg3.output.trans x3.output).trans (cg1.output.trans x1.output), hsz, fun b hb hn => ?_, fun b hb hm => ?_, fun b off => ?_⟩
        · by_cases hbl : b = l
          · subst hbl; rw [hl4, g1]
          · rw [cg3.other b hbl, x3.keep b (by rw [cg1.size]; exact Nat.lt_of_lt_of_le hb x1.size) (fun hm => hn (x1.own b hb hm)), cg1.other b hbl]
            exact x1.keep b hb hn
        · exact x1.own b hb (x3.own b (by rw [cg1.size]; exact Nat.lt_of_lt_of_le hb x1.size) hm)
        · by_cases hbl : b = l
          · subst hbl; rw [hl4, g1]
          · rw [cg3.other b hbl, x3.fz, cg1.other b hbl, x1.fz]
      rw [hYd] at HY4
      have HJ := HP.join HY4 E4
      have EJ : Ext (h1 ++ [(l, OB.obj (.loop (rec .ready none))), (w.heap.size, OB.obj (.deferred (some [])))]) w' (h3 ++ [(l, OB.obj (.loop (rec .ready none))), (w.heap.size, OB.obj (.deferred (some [])))]) w4 := E4.join
      have hp3 : (h3 ++ [(l, OB.obj (.loop (rec .ready none))), (w.heap.size, OB.obj (.deferred (some [])))]).Perm ((l, OB.obj (.loop (rec .ready none))) :: (w.heap.size, OB.obj (.deferred (some []))) :: h3) :=
        List.perm_append_comm (l₁ := h3) (l₂ := [(l, OB.obj (.loop (rec .ready none))), (w.heap.size, OB.obj (.deferred (some [])))])
      have HF := HJ.perm hp3
      have EF : Ext ((l, OB.obj (.loop (rec .ready none))) :: (w.heap.size, OB.obj (.deferred (some []))) :: h1) w' ((l, OB.obj (.loop (rec .ready none))) :: (w.heap.size, OB.obj (.deferred (some []))) :: h3) w4 := ((Ext.perm w' hp2).trans EJ).trans (Ext.perm w4 hp3)
      have hend0 : (Instr.endRound l none).run P w3 = .ok (.bool true) w4 := by
        have := run_endRound (P := P) none hl3
        rw [hw4]
        rw [hrec] at this ⊢
        exact this
      have hendx : ∀ c : Code, ∃ w5, (Instr.endRound l (some c)).run P w3 = .ok (.bool false) w5 ∧ Holds X' ((l, OB.obj (.loop (rec .done (some c)))) :: (w.heap.size, OB.obj (.deferred (some []))) :: h3) w5 ∧ Ext ((l, OB.obj (.loop (rec .ready none))) :: (w.heap.size, OB.obj (.deferred (some []))) :: h1) w' ((l, OB.obj (.loop (rec .done (some c)))) :: (w.heap.size, OB.obj (.deferred (some []))) :: h3) w5 := by
        intro c
        have he := run_endRound (P := P) (some c) hl3
        have cg5 := chg_putObj w4 l (.loop (rec .done (some c)))
        have heq : w4.putObj l (.loop (rec .done (some c))) = w3.putObj l (.loop (rec .done (some c))) := by rw [hw4]; simp [World.putObj]
        have hl5 : (w4.putObj l (.loop (rec .done (some c)))).heap[l]? = some (.loop (rec .done (some c))) := World.putObj_heap_same (Array.getElem?_eq_some_iff.1 hl4).1
        obtain ⟨q1, q2⟩ := HF.chg (i := 0) (o' := OB.obj (.loop (rec .done (some c)))) rfl cg5 ⟨_, hl5, .obj _⟩
        refine ⟨w4.putObj l (.loop (rec .done (some c))), ?_, q1, EF.trans q2⟩
        rw [heq]
        rw [hrec] at he ⊢
        exact he
      cases e2 with
      | normal => exact ⟨_, w4, hend0, true, _, .inl ⟨rfl, h3, rfl, q3⟩, rfl, HF, EF⟩
      | ret => obtain ⟨w5, k1, k2, k3⟩ := hendx .ret; exact ⟨_, w5, k1, false, _, .inr ⟨rfl, .ret, h3, rfl, q3⟩, rfl, k2, k3⟩
      | exit id => obtain ⟨w5, k1, k2, k3⟩ := hendx (.exit id); exact ⟨_, w5, k1, false, _, .inr ⟨rfl, .exit id, h3, rfl, q3⟩, rfl, k2, k3⟩
      | goto t => obtain ⟨w5, k1, k2, k3⟩ := hendx (.goto t); exact ⟨_, w5, k1, false, _, .inr ⟨rfl, .goto t, h3, rfl, q3⟩, rfl, k2, k3⟩
      | panic c => exact q3.elim
      | outgrown => exact q3.elim
    | exit id => exact q.elim
    | goto t => exact q.elim
    | ret => exact q.elim
    | panic c => exact q.elim
    | outgrown => exact q.elim
end
end Go.Proofs.YtnoicbajhlpndaaGreat.Hp
/- Rules for the comparison of structs, and for min and max. -/
namespace Go.Proofs.YtnoicbajhlpndaaGreat.Hp
open Go Go.RowKit Go.Shelf
set_option linter.unusedVariables false
set_option linter.unusedSimpArgs false

inductive CK where
  | int
  | bool
/-- The cells of a type that is compared cell by cell. -/
def eqGo (P : Program) (rec : TypeId → Option (List CK)) : List Field → Nat → Option (List CK)
  | [], _ => some []
  | f :: r, off => match rec f.type, tyK P f.type with
    | some l, some (g, n) => bif !(f.name == "_") && Nat.beq f.offset off && Nat.beq n l.length then
        match eqGo P rec r (off + n) with
        | some l2 => some (l ++ l2)
        | none => none
      else none
    | _, _ => none
def eqSh (P : Program) : Nat → TypeId → Option (List CK)
  | 0, _ => none
  | d + 1, t => match P.underlying t with
    | some (.int _) => some [.int]
    | some .bool => some [.bool]
    | some (.struct fs) => bif P.stoodInHeld t then none else eqGo P (eqSh P d) fs.toList 0
    | _ => none

def ckOk : CK → Value → Bool
  | .int, .int .i64 _ => true
  | .bool, .bool _ => true
  | _, _ => false
def ceq : Value → Value → Bool
  | .int _ a, .int _ b => decide (a = b)
  | .bool a, .bool b => a == b
  | _, _ => false
def ceqs : List Value → List Value → Bool
  | x :: xs, y :: ys => ceq x y && ceqs xs ys
  | _, _ => true
def cksOk : List CK → List Value → Prop
  | [], [] => True
  | k :: ks, x :: xs => ckOk k x = true ∧ cksOk ks xs
  | _, _ => False
theorem cksOk_length : ∀ {ks : List CK} {xs : List Value}, cksOk ks xs → xs.length = ks.length
  | [], [], _ => rfl
  | k :: ks, x :: xs, h => by simp [cksOk_length h.2]
  | [], _ :: _, h => h.elim
  | _ :: _, [], h => h.elim
theorem ceqs_append : ∀ {a b c d : List Value}, a.length = b.length → ceqs (a ++ c) (b ++ d) = (ceqs a b && ceqs c d)
  | [], [], c, d, _ => by simp [ceqs]
  | x :: a, y :: b, c, d, h => by simp only [List.cons_append, ceqs, ceqs_append (c := c) (d := d) (by simpa using h), Bool.and_assoc]
theorem cksOk_append : ∀ {k1 k2 : List CK} {xs : List Value}, cksOk (k1 ++ k2) xs → cksOk k1 (xs.take k1.length) ∧ cksOk k2 (xs.drop k1.length)
  | [], k2, xs, h => ⟨by simp [cksOk], by simpa using h⟩
  | k :: k1, k2, [], h => h.elim
  | k :: k1, k2, x :: xs, h => by
    obtain ⟨h1, h2⟩ := cksOk_append (k1 := k1) (k2 := k2) h.2
    exact ⟨⟨h.1, h1⟩, h2⟩
/-- A value of that many cells. -/
def mkV : Bool → List Value → Value
  | true, xs => .agg xs.toArray
  | false, [] => undef
  | false, x :: _ => x

theorem part_run {P : Program} {t : TypeId} {g : Bool} {n : Nat} (ht : tyK P t = some (g, n)) {xs : List Value} {off : Nat} (ho : off + n ≤ xs.length) (hn : g = false → n = 1) (w : World) :
    (part t xs.toArray off).run P w = .ok (mkV g ((xs.drop off).take n)) w := by
  unfold part
  cases g with
  | true =>
    obtain ⟨h1, h2⟩ := tyK_agg ht w
    rw [run_bind h1]; simp only [if_true]; rw [run_bind h2]
    simp only [mkV, run_pure]
    congr 2
    apply Array.ext'
    simp [List.extract_eq_take_drop]
  | false =>
    obtain ⟨h1, h2⟩ := tyK_one ht w
    have := hn rfl
    subst this
    rw [run_bind h1]
    have hl : off < xs.length := by omega
    have e : (xs.drop off).take 1 = [xs[off]] := by rw [List.drop_eq_getElem_cons hl]; rfl
    simp [e, mkV, hl, run_pure]

theorem tyK_struct {P : Program} {t : TypeId} {fs : Array Field} (hu : P.underlying t = some (.struct fs)) {g : Bool} {n : Nat} (h : tyK P t = some (g, n)) : g = true := by
  unfold tyK at h; rw [hu] at h
  cases hi : P.info? t with
  | none => simp [hi] at h
  | some i => simp only [hi, Option.some.injEq, Prod.mk.injEq] at h; exact h.1.symm
theorem tyK_int {P : Program} {t : TypeId} {k : IntKind} (hu : P.underlying t = some (.int k)) {g : Bool} {n : Nat} (h : tyK P t = some (g, n)) : g = false := by
  unfold tyK at h; rw [hu] at h
  cases hi : P.info? t with
  | none => simp [hi] at h
  | some i => simp only [hi, Option.some.injEq, Prod.mk.injEq] at h; exact h.1.symm
theorem tyK_bool {P : Program} {t : TypeId} (hu : P.underlying t = some .bool) {g : Bool} {n : Nat} (h : tyK P t = some (g, n)) : g = false := by
  unfold tyK at h; rw [hu] at h
  cases hi : P.info? t with
  | none => simp [hi] at h
  | some i => simp only [hi, Option.some.injEq, Prod.mk.injEq] at h; exact h.1.symm

theorem equalIn_sh {P : Program} : ∀ (d : Nat) (t : TypeId) (ks : List CK), eqSh P d t = some ks → ∀ (g : Bool) (n : Nat), tyK P t = some (g, n) → (g = false → n = 1) → ∀ (xs ys : List Value) (w : World), cksOk ks xs → cksOk ks ys →
    ∀ e, (Op.equalIn (d + e) t (mkV g xs) (mkV g ys)).run P w = .ok (ceqs xs ys) w := by
  intro d
  induction d with
  | zero => intro t ks h; simp [eqSh] at h
  | succ d ih =>
    intro t ks h g n ht hn xs ys w hx hy e
    simp only [eqSh] at h
    rw [show d + 1 + e = (d + e) + 1 from by omega]
    split at h
    · rename_i k hu
      simp only [Option.some.injEq] at h; subst h
      have hg : g = false := tyK_int hu ht
      subst hg
      match xs, ys, hx, hy with
      | [x], [y], hx, hy =>
        obtain ⟨hx, _⟩ := hx; obtain ⟨hy, _⟩ := hy
        cases x <;> simp [ckOk] at hx
        rename_i kx a
        cases kx <;> simp at hx
        cases y <;> simp [ckOk] at hy
        rename_i ky b
        cases ky <;> simp at hy
        rw [show mkV false [Value.int .i64 a] = Value.int .i64 a from rfl, show mkV false [Value.int .i64 b] = Value.int .i64 b from rfl, run_equalIn_int w _ t _ k a b hu]
        simp only [ceqs, ceq, Bool.and_true]; rfl
    · rename_i hu
      simp only [Option.some.injEq] at h; subst h
      have hg : g = false := tyK_bool hu ht
      subst hg
      match xs, ys, hx, hy with
      | [x], [y], hx, hy =>
        obtain ⟨hx, _⟩ := hx; obtain ⟨hy, _⟩ := hy
        cases x <;> simp [ckOk] at hx
        rename_i a
        cases y <;> simp [ckOk] at hy
        rename_i b
        rw [show mkV false [Value.bool a] = Value.bool a from rfl, show mkV false [Value.bool b] = Value.bool b from rfl, run_equalIn_bool' w _ t a b hu]
        simp [ceqs, ceq]
    · rename_i fs hu
      cases hst : P.stoodInHeld t with
      | true => simp [hst] at h
      | false =>
        simp only [hst, cond_false] at h
        have hg : g = true := tyK_struct hu ht
        subst hg
        have hf : P.fieldsOf t = fs := by simp [Program.fieldsOf, hu]
        rw [show mkV true xs = .agg xs.toArray from rfl, show mkV true ys = .agg ys.toArray from rfl, run_equalIn_struct w _ t _ _ (by rw [hf]; exact hu) hst, hf]
        -- the fields from some offset on
        have key : ∀ (l : List Field) (off : Nat) (ks : List CK), eqGo P (eqSh P d) l off = some ks → cksOk ks (xs.drop off) → cksOk ks (ys.drop off) → off ≤ xs.length → off ≤ ys.length →
            (Op.eqFields (d + e) xs.toArray ys.toArray l).run P w = .ok (ceqs (xs.drop off) (ys.drop off)) w := by
          intro l
          induction l with
          | nil =>
            intro off ks hk h1 h2 _ _
            simp only [eqGo, Option.some.injEq] at hk; subst hk
            have e1 : xs.drop off = [] := List.eq_nil_of_length_eq_zero (cksOk_length h1)
            have e2 : ys.drop off = [] := List.eq_nil_of_length_eq_zero (cksOk_length h2)
            rw [e1, e2]; rfl
          | cons f l ihl =>
            intro off ks hk h1 h2 o1 o2
            simp only [eqGo] at hk
            split at hk
            · rename_i l1 g1 n1 hs1 ht1
              cases hc : (!(f.name == "_") && Nat.beq f.offset off && Nat.beq n1 l1.length) with
              | false => simp [hc] at hk
              | true =>
                simp only [hc, cond_true] at hk
                simp only [Bool.and_eq_true, Nat.beq_eq, Bool.not_eq_true', beq_eq_false_iff_ne] at hc
                obtain ⟨⟨hname, hoff⟩, hlen⟩ := hc
                split at hk
                · rename_i l2 hgo
                  simp only [Option.some.injEq] at hk; subst hk
                  obtain ⟨a1, a2⟩ := cksOk_append h1
                  obtain ⟨b1, b2⟩ := cksOk_append h2
                  have lx := cksOk_length a1
                  have ly := cksOk_length b1
                  have nx := cksOk_length h1
                  have ny := cksOk_length h2
                  simp only [List.length_append, List.length_drop] at nx ny
                  have hn1 : g1 = false → n1 = 1 := by
                    intro hg1
                    subst hg1
                    rw [hlen]
                    cases d with
                    | zero => simp [eqSh] at hs1
                    | succ d =>
                      simp only [eqSh] at hs1
                      split at hs1
                      · simp only [Option.some.injEq] at hs1; subst hs1; rfl
                      · simp only [Option.some.injEq] at hs1; subst hs1; rfl
                      · rename_i fs' hu'
                        exact absurd (tyK_struct hu' ht1) (by simp)
                      · cases hs1
                  have px := part_run (P := P) ht1 (xs := xs) (off := off) (by omega) hn1 w
                  have py := part_run (P := P) ht1 (xs := ys) (off := off) (by omega) hn1 w
                  have he := ih f.type l1 hs1 g1 n1 ht1 hn1 ((xs.drop off).take n1) ((ys.drop off).take n1) w (by rw [hlen]; exact a1) (by rw [hlen]; exact b1) e
                  have hr := ihl (off + n1) l2 hgo (by rw [List.drop_drop, ← hlen] at a2; exact a2) (by rw [List.drop_drop, ← hlen] at b2; exact b2) (by omega) (by omega)
                  have hsplit : ceqs (xs.drop off) (ys.drop off) = (ceqs ((xs.drop off).take n1) ((ys.drop off).take n1) && ceqs (xs.drop (off + n1)) (ys.drop (off + n1))) := by
                    rw [← List.drop_drop, ← List.drop_drop, ← ceqs_append (by simp; omega), List.take_append_drop, List.take_append_drop]
                  rw [Op.eqFields, if_pos hname, hoff, run_bind px, run_bind py, run_bind he, hsplit]
                  cases ceqs ((xs.drop off).take n1) ((ys.drop off).take n1) with
                  | true => simpa using hr
                  | false => simp [run_pure]
                · cases hk
            · cases hk
        have := key fs.toList 0 ks h (by simpa using hx) (by simpa using hy) (Nat.zero_le _) (Nat.zero_le _)
        simpa using this
    · cases h

/-- A struct type that is compared cell by cell. -/
class EqC (P : Program) (t : TypeId) (ks : outParam (List CK)) : Prop where
  out : eqSh P 20 t = some ks
  gd : P.eqGuardType P.depth t = false
  ag : (tyK P t).map (·.1) = some true

/-- Whole numbers and bools, as values. -/
def rawsOf : List AV → List CK → Option (List Value)
  | [], [] => some []
  | .p (.raw v) :: r, k :: ks => bif ckOk k v then match rawsOf r ks with
      | some l => some (v :: l)
      | none => none
    else none
  | _, _ => none
theorem rawsOf_rel {hp : Array Obj} {imm : Nat → Prop} : ∀ {cs : List AV} {ks : List CK} {xs vals : List Value}, rawsOf cs ks = some xs → vals.length = cs.length → (∀ (i : Nat) c v, cs[i]? = some c → vals[i]? = some v → RelA hp imm c v) → vals = xs ∧ cksOk ks xs
  | [], [], xs, vals, h, hl, hr => by
    cases h
    exact ⟨List.eq_nil_of_length_eq_zero (by simpa using hl), trivial⟩
  | .p (.raw v) :: r, k :: ks, xs, vals, h, hl, hr => by
    simp only [rawsOf] at h
    cases hk : ckOk k v with
    | false => simp [hk] at h
    | true =>
      simp only [hk, cond_true] at h
      split at h
      · rename_i l hrl
        cases h
        cases vals with
        | nil => simp at hl
        | cons x vals =>
          obtain ⟨e, hks⟩ := rawsOf_rel (vals := vals) hrl (by simpa using hl) (fun i c v hc hv => hr (i + 1) c v (by simpa using hc) (by simpa using hv))
          have h0 := hr 0 _ x rfl rfl
          cases h0 with
          | p hp => cases hp; exact ⟨by rw [e], hk, hks⟩
      · cases h

section
variable {P : Program} {X : Ctx} {N : Nat} {r : Option Nat} {Q : Post} {ds : List Deferred} {a : Tmps} {h : AHeap}
variable {ops : Array Oper} {rest : List Oper} {d : Tmp} {ty : TypeId} {pos : String} {aft : Array Edge}

theorem run_eqS {t : TypeId} {ks : List CK} (hq : EqC P t ks) {xs ys : List Value} (hx : cksOk ks xs) (hy : cksOk ks ys) (w : World) : (Op.equal t (.agg xs.toArray) (.agg ys.toArray)).run P w = .ok (ceqs xs ys) w := by
  have hag := hq.ag
  cases ht : tyK P t with
  | none => simp [ht] at hag
  | some p =>
    obtain ⟨g, n⟩ := p
    simp only [ht, Option.map_some, Option.some.injEq] at hag
    subst hag
    have := equalIn_sh 20 t ks hq.out true n ht (by simp) xs ys w hx hy 9980
    exact this

theorem o_eqS {t t1 : TypeId} {x y : Operand} {cs es : List AV} {xs ys : List Value} {ks : List CK} [hq : EqC P t ks] (hx : ev a x = some (.agg cs)) (hy : ev a y = some (.agg es)) (rx : rawsOf cs ks = some xs) (ry : rawsOf es ks = some ys) (hN : d < N)
    (k : WPs P X N r ops rest Q ds ((d, B (ceqs xs ys)) :: a) h) : WPs P X N r ops (⟨some d, .binOp .eql t x y t1, ty, pos, aft, none⟩ :: rest) Q ds a h :=
  o_pure hN (by intro c e; cases e) (fun act w s => by
    have r1 := s.ev hx; have r2 := s.ev hy
    generalize hxv : act.eval x = xv at r1
    generalize hyv : act.eval y = yv at r2
    cases r1 with
    | agg _ v1 s1 q1 => cases r2 with
      | agg _ v2 s2 q2 =>
        obtain ⟨e1, c1⟩ := rawsOf_rel (vals := v1.toList) rx (by simpa using s1) (fun i c v hc hv => q1 i c v hc (by simpa using hv))
        obtain ⟨e2, c2⟩ := rawsOf_rel (vals := v2.toList) ry (by simpa using s2) (fun i c v hc hv => q2 i c v hc (by simpa using hv))
        have h1 : v1 = xs.toArray := by apply Array.ext'; simpa using e1
        have h2 : v2 = ys.toArray := by apply Array.ext'; simpa using e2
        subst h1; subst h2
        refine ⟨.bool (ceqs xs ys), exec_v rfl ?_, .p (.raw _)⟩
        rw [hxv, hyv, run_bind (run_eqGuard_agg w .eql t x y _ _ hq.gd)]
        show (do pure (.bool (← Op.equal t (.agg xs.toArray) (.agg ys.toArray))) : Sem Value).run P w = _
        rw [run_bind (run_eqS hq c1 c2 w)]; rfl) k
theorem o_neS {t t1 : TypeId} {x y : Operand} {cs es : List AV} {xs ys : List Value} {ks : List CK} [hq : EqC P t ks] (hx : ev a x = some (.agg cs)) (hy : ev a y = some (.agg es)) (rx : rawsOf cs ks = some xs) (ry : rawsOf es ks = some ys) (hN : d < N)
    (k : WPs P X N r ops rest Q ds ((d, B (!ceqs xs ys)) :: a) h) : WPs P X N r ops (⟨some d, .binOp .neq t x y t1, ty, pos, aft, none⟩ :: rest) Q ds a h :=
  o_pure hN (by intro c e; cases e) (fun act w s => by
    have r1 := s.ev hx; have r2 := s.ev hy
    generalize hxv : act.eval x = xv at r1
    generalize hyv : act.eval y = yv at r2
    cases r1 with
    | agg _ v1 s1 q1 => cases r2 with
      | agg _ v2 s2 q2 =>
        obtain ⟨e1, c1⟩ := rawsOf_rel (vals := v1.toList) rx (by simpa using s1) (fun i c v hc hv => q1 i c v hc (by simpa using hv))
        obtain ⟨e2, c2⟩ := rawsOf_rel (vals := v2.toList) ry (by simpa using s2) (fun i c v hc hv => q2 i c v hc (by simpa using hv))
        have h1 : v1 = xs.toArray := by apply Array.ext'; simpa using e1
        have h2 : v2 = ys.toArray := by apply Array.ext'; simpa using e2
        subst h1; subst h2
        refine ⟨.bool (!ceqs xs ys), exec_v rfl ?_, .p (.raw _)⟩
        rw [hxv, hyv, run_bind (run_eqGuard_agg w .neq t x y _ _ hq.gd)]
        show (do pure (.bool (!(← Op.equal t (.agg xs.toArray) (.agg ys.toArray)))) : Sem Value).run P w = _
        rw [run_bind (run_eqS hq c1 c2 w)]; rfl) k

theorem o_min {x y : Operand} {m n : Int} {ats : Array TypeId} (hx : ev a x = some (I m)) (hy : ev a y = some (I n)) (hN : d < N) (k : WPs P X N r ops rest Q ds ((d, I (min m n)) :: a) h) :
    WPs P X N r ops (⟨some d, .call { callee := .builtin .min, args := #[x, y], argTypes := ats }, ty, pos, aft, none⟩ :: rest) Q ds a h :=
  o_pure hN (by intro c e; cases e) (fun act w s => by
    have hv := ev_raw s hx; have hu := ev_raw s hy
    refine ⟨.int .i64 (min m n), exec_v (m := Builtin.min_ ats ty (#[x, y].map act.eval)) rfl ?_, .p (.raw _)⟩
    simp only [List.map_toArray, List.map_cons, List.map_nil, hv, hu, Builtin.min_, List.foldlM_cons, List.foldlM_nil, Builtin.min2]
    have : (if n < m then n else m) = min m n := by omega
    rw [run_bind (run_pure _ w), this]; rfl) k
theorem o_max {x y : Operand} {m n : Int} {ats : Array TypeId} (hx : ev a x = some (I m)) (hy : ev a y = some (I n)) (hN : d < N) (k : WPs P X N r ops rest Q ds ((d, I (max m n)) :: a) h) :
    WPs P X N r ops (⟨some d, .call { callee := .builtin .max, args := #[x, y], argTypes := ats }, ty, pos, aft, none⟩ :: rest) Q ds a h :=
  o_pure hN (by intro c e; cases e) (fun act w s => by
    have hv := ev_raw s hx; have hu := ev_raw s hy
    refine ⟨.int .i64 (max m n), exec_v (m := Builtin.max_ ats ty (#[x, y].map act.eval)) rfl ?_, .p (.raw _)⟩
    simp only [List.map_toArray, List.map_cons, List.map_nil, hv, hu, Builtin.max_, List.foldlM_cons, List.foldlM_nil, Builtin.max2]
    have : (if n > m then n else m) = max m n := by omega
    rw [run_bind (run_pure _ w), this]; rfl) k
end
end Go.Proofs.YtnoicbajhlpndaaGreat.Hp
/- More rules: calls that take the whole of what is owned; results with what is owned kept. -/
namespace Go.Proofs.YtnoicbajhlpndaaGreat.Hp
open Go Go.RowKit Go.Shelf
set_option linter.unusedVariables false
set_option linter.unusedSimpArgs false
section
variable {P : Program} {X : Ctx} {N : Nat} {r : Option Nat} {Q : Post} {ds : List Deferred} {a : Tmps} {h : AHeap}
variable {ops : Array Oper} {rest : List Oper} {d : Tmp} {ty : TypeId} {pos : String} {aft : Array Edge}

theorem Split.all (h : AHeap) : Split h h [] := ⟨by simp⟩

/-- A call that may write all that is owned. -/
theorem o_callA {g : Operand} {xs : Array Operand} {ats : Array TypeId} {f : FuncId} {caps vs : List AV} {R : AV → AHeap → Prop}
    (hg : ev a g = some (.fn f caps)) (hx : evs a xs.toList = some vs) (he : Enters P f) (hN : d < N) (hs : Fc P f (vs ++ caps) h R) (k : ∀ v h', R v h' → WPs P X N r ops rest Q ds ((d, v) :: a) h') :
    WPs P X N r ops (⟨some d, .call { callee := .value g, args := xs, argTypes := ats }, ty, pos, aft, none⟩ :: rest) Q ds a h :=
  o_call hg hx he hN (Split.all h) hs fun v h' hr => by rw [List.append_nil]; exact k v h' hr
/-- A call that makes blocks of its own, and writes none of those that are owned. -/
theorem o_callN {g : Operand} {xs : Array Operand} {ats : Array TypeId} {f : FuncId} {caps vs : List AV} {R : AV → AHeap → Prop}
    (hg : ev a g = some (.fn f caps)) (hx : evs a xs.toList = some vs) (he : Enters P f) (hN : d < N) (hs : Fc P f (vs ++ caps) [] R) (k : ∀ v h', R v h' → WPs P X N r ops rest Q ds ((d, v) :: a) (h' ++ h)) :
    WPs P X N r ops (⟨some d, .call { callee := .value g, args := xs, argTypes := ats }, ty, pos, aft, none⟩ :: rest) Q ds a h :=
  o_call hg hx he hN (Split.none h) hs k

theorem retK1 {R : AEnd → AHeap → Prop} {t : Tmp} {v : AV} (hv : lk a t = some v) (k : R (.ret v) h) : RetP P [.tmp t] R [] a h :=
  ⟨[], [v], v, h, rfl, List.nodup_nil, (by intro D hD; cases hD), .cons (.tmp hv) .nil, .refl _, id, (fun b o h => ⟨o, h, .refl _⟩), k⟩
theorem retK0 {R : AEnd → AHeap → Prop} (k : R (.ret (.tup [])) h) : RetP P [] R [] a h :=
  ⟨[], [], .tup [], h, rfl, List.nodup_nil, (by intro D hD; cases hD), .nil, .refl _, id, (fun b o h => ⟨o, h, .refl _⟩), k⟩
/-- Some of what is owned is kept: the entries at the places of a list. -/
theorem retS1 {R : AEnd → AHeap → Prop} {t : Tmp} {v : AV} (h' : AHeap) (hv : lk a t = some v) (hsub : h'.Sublist h) (k : R (.ret v) h') : RetP P [.tmp t] R [] a h :=
  ⟨[], [v], v, h', rfl, List.nodup_nil, (by intro D hD; cases hD), .cons (.tmp hv) .nil, .refl _, fun hn => (hsub.map Prod.fst).nodup hn, (fun b o ho => ⟨o, hsub.subset ho, .refl _⟩), k⟩
theorem retS0 {R : AEnd → AHeap → Prop} (h' : AHeap) (hsub : h'.Sublist h) (k : R (.ret (.tup [])) h') : RetP P [] R [] a h :=
  ⟨[], [], .tup [], h', rfl, List.nodup_nil, (by intro D hD; cases hD), .nil, .refl _, fun hn => (hsub.map Prod.fst).nodup hn, (fun b o ho => ⟨o, hsub.subset ho, .refl _⟩), k⟩
end
end Go.Proofs.YtnoicbajhlpndaaGreat.Hp
/- Regions that draw their order. A chain tells of each operation what it does, in one order; operations that may come in another order stand apart. -/
namespace Go.Proofs.YtnoicbajhlpndaaGreat.Hp
open Go Go.RowKit Go.Shelf
set_option linter.unusedVariables false
set_option linter.unusedSimpArgs false

/-! ### what is known of some temporaries -/
def restr (L : List Nat) (a : Tmps) : Tmps := match L with
  | [] => []
  | t :: r => match lk a t with
    | some v => (t, v) :: restr r a
    | none => restr r a
theorem restr_congr {L : List Nat} {a a' : Tmps} (h : ∀ t ∈ L, lk a t = lk a' t) : restr L a = restr L a' := by
  induction L with
  | nil => rfl
  | cons t r ih =>
    have h1 := h t List.mem_cons_self
    have h2 := ih fun u hu => h u (List.mem_cons_of_mem _ hu)
    simp only [restr, h1, h2]
theorem lk_restr {L : List Nat} {a : Tmps} {t : Nat} {v : AV} (h : lk (restr L a) t = some v) : lk a t = some v := by
  induction L with
  | nil => cases h
  | cons u r ih =>
    simp only [restr] at h
    cases hu : lk a u with
    | none => rw [hu] at h; exact ih h
    | some x =>
      rw [hu] at h
      by_cases e : u = t
      · subst e; rw [lk_same] at h; rw [hu]; exact h
      · rw [lk_other _ _ e] at h; exact ih h
def Same (a a' : Tmps) : Prop := ∀ t, lk a t = lk a' t
theorem Same.refl (a : Tmps) : Same a a := fun _ => rfl
theorem Same.symm {a a' : Tmps} (h : Same a a') : Same a' a := fun t => (h t).symm
theorem Same.cons {a a' : Tmps} (h : Same a a') (d : Nat) (v : AV) : Same ((d, v) :: a) ((d, v) :: a') := fun t => by
  by_cases e : d = t
  · subst e; rw [lk_same, lk_same]
  · rw [lk_other _ _ e, lk_other _ _ e]; exact h t
theorem Same.app {a a' : Tmps} (h : Same a a') (l : Tmps) : Same (l ++ a) (l ++ a') := by
  induction l with
  | nil => exact h
  | cons x l ih => exact ih.cons x.1 x.2
theorem Same.swap {d e : Nat} (hn : d ≠ e) (v u : AV) (a : Tmps) : Same ((d, v) :: (e, u) :: a) ((e, u) :: (d, v) :: a) := fun t => by
  by_cases h1 : d = t
  · subst h1; rw [lk_same, lk_other _ _ (Ne.symm hn), lk_same]
  · rw [lk_other _ _ h1]
    by_cases h2 : e = t
    · subst h2; rw [lk_same, lk_same]
    · rw [lk_other _ _ h2, lk_other _ _ h2, lk_other _ _ h1]
theorem Same.swaps {d : Nat} (v : AV) (a : Tmps) : ∀ (l : Tmps), (∀ x ∈ l, x.1 ≠ d) → Same (l ++ (d, v) :: a) ((d, v) :: (l ++ a))
  | [], _ => Same.refl _
  | (e, u) :: l, h => by
    have h1 := (Same.swaps v a l fun x hx => h x (List.mem_cons_of_mem _ hx)).cons e u
    exact fun t => (h1 t).trans (Same.swap (h (e, u) List.mem_cons_self) u v (l ++ a) t)
theorem lk_app_other {l a : Tmps} {t : Nat} (h : ∀ x ∈ l, x.1 ≠ t) : lk (l ++ a) t = lk a t := by
  induction l with
  | nil => rfl
  | cons x l ih =>
    obtain ⟨e, u⟩ := x
    rw [List.cons_append, lk_other _ _ (h (e, u) List.mem_cons_self)]
    exact ih fun x hx => h x (List.mem_cons_of_mem _ hx)
theorem lk_app {l a : Tmps} {t : Nat} {v : AV} (h : lk (l ++ a) t = some v) : lk l t = some v ∨ ((∀ x ∈ l, x.1 ≠ t) ∧ lk a t = some v) := by
  induction l with
  | nil => exact .inr ⟨(by simp), h⟩
  | cons x l ih =>
    obtain ⟨e, u⟩ := x
    by_cases he : e = t
    · subst he; rw [List.cons_append, lk_same] at h; exact .inl (by rw [lk_same]; exact h)
    · rw [List.cons_append, lk_other _ _ he] at h
      rcases ih h with h1 | ⟨h1, h2⟩
      · exact .inl (by rw [lk_other _ _ he]; exact h1)
      · refine .inr ⟨fun x hx => ?_, h2⟩
        rcases List.mem_cons.1 hx with rfl | hx
        · exact he
        · exact h1 x hx

theorem lk_app_left {l a : Tmps} {t : Nat} {v : AV} (h : lk l t = some v) : lk (l ++ a) t = some v := by
  induction l with
  | nil => cases h
  | cons x l ih =>
    obtain ⟨e, u⟩ := x
    by_cases he : e = t
    · subst he; rw [lk_same] at h; rw [List.cons_append, lk_same]; exact h
    · rw [lk_other _ _ he] at h; rw [List.cons_append, lk_other _ _ he]; exact ih h

/-! ### one operation by itself -/
/-- What an operation does: from what is known of the temporaries that it looks at, and of a part of the heap. -/
def OpT (P : Program) (N : Nat) (ops : Array Oper) (o : Oper) (ρ : Tmps) (h : AHeap) (δ : Tmps) (h' : AHeap) : Prop :=
  ∀ X r Q ds, WPs P X N r ops [] Q ds (δ ++ ρ) h' → WPs P X N r ops [o] Q ds ρ h
/-- An operation that makes blocks; what it gives is one of a family. -/
def OpN (P : Program) (N : Nat) (ops : Array Oper) (o : Oper) (ρ : Tmps) (d : Tmp) {ι : Type} (f : ι → AV) (g : ι → AHeap) : Prop :=
  ∀ X r Q ds, (∀ b, WPs P X N r ops [] Q ds ((d, f b) :: ρ) (g b)) → WPs P X N r ops [o] Q ds ρ []

/-- An operation that turns the heap; what it gives is one of a family. -/
def OpA (P : Program) (N : Nat) (ops : Array Oper) (o : Oper) (ρ : Tmps) (d : Tmp) (h : AHeap) {ι : Type} (f : ι → AV) (g : ι → AHeap) : Prop :=
  ∀ X r Q ds, (∀ b, WPs P X N r ops [] Q ds ((d, f b) :: ρ) (g b)) → WPs P X N r ops [o] Q ds ρ h

section
variable {P : Program} {X : Ctx} {N : Nat} {r : Option Nat} {Q : Post} {ds : List Deferred} {a : Tmps} {h : AHeap} {ops : Array Oper}

theorem one_conv {F : Fence} {n : Nat} {o : Oper} {i : Nat} {act : Act} {w : World} {Q1 Qb : Exit → Act → World → Prop} {K : Act → World → Prop} (hi : ops[i]? = some o)
    (hk : ∀ x act' w', act'.tmps = (act.put o.dst x).tmps → Q1 .normal act' w' → K act' w') (hq : ∀ e act' w', e ≠ .normal → ¬ Q1 e act' w') (k : opsIn F n P ops Q1 [o] act w) : wpOpIn F n P ops Qb i K act w := by
  unfold wpOpIn
  simp only [hi]
  simp only [opsIn] at k
  split
  · rename_i hw
    rw [if_pos hw] at k
    refine ⟨k.1, ?_⟩
    have h2 := k.2
    revert h2
    generalize (o.semAt F.round act.eval).run P w = res
    intro h2
    cases res with
    | ok nx w' =>
      cases nx with
      | value v => exact hk _ _ _ rfl h2
      | skip => exact hk _ _ _ rfl h2
      | defer d => exact hk undef _ _ (by cases o.dst <;> rfl) h2
      | enter f args =>
        refine ⟨h2.1, h2.2.mono ?_⟩
        intro e w2 he
        cases e with
        | returned v => exact hk _ _ _ rfl he
        | panicked ch => exact (hq _ _ _ (by intro e; cases e) he).elim
        | outgrown => obtain ⟨x, y, z⟩ := he; exact (hq _ _ _ (by intro e; cases e) z).elim
      | row row args => exact ⟨h2.1, h2.2.mono fun v w2 he => hk _ _ _ rfl he⟩
      | round l f tmps assign body =>
        refine ⟨h2.1, h2.2.mono ?_⟩
        intro e w2 he
        cases e with
        | returned v => exact hk _ _ _ rfl he
        | panicked ch => exact (hq _ _ _ (by intro e; cases e) he).elim
        | outgrown => obtain ⟨x, y, z⟩ := he; exact (hq _ _ _ (by intro e; cases e) z).elim
      | _ => exact h2.elim
    | halt hh w' =>
      cases hh with
      | panic v => exact (hq _ _ _ (by intro e; cases e) h2).elim
      | _ => exact h2.elim
  · rename_i hw
    rw [if_neg hw] at k
    exact ⟨k.1, hk _ _ _ rfl k.2⟩

/-- One operation, with what stands round it. -/
theorem frame1 {n i : Nat} {o : Oper} {ρ : Tmps} {h1 h2 : AHeap} {act : Act} {w : World} {Qb : Exit → Act → World → Prop} {K : Act → World → Prop} (hi : ops[i]? = some o) (R : Tmps → AHeap → Prop)
    (hop : ∀ X r Q ds, (∀ δ h', R δ h' → WPs P X N r ops [] Q ds (δ ++ ρ) h') → WPs P X N r ops [o] Q ds ρ h1) (hR : ∀ δ h', R δ h' → ∀ t, o.dst = some t → ∃ x ∈ δ, x.1 = t)
    (hρ : ∀ t v, lk ρ t = some v → lk a t = some v) (s : St X N ds a (h1 ++ h2) act w)
    (hk : ∀ act' w' δ h', R δ h' → St X N ds (δ ++ a) (h' ++ h2) act' w' → Ext (h1 ++ h2) w (h' ++ h2) w' → K act' w') : wpOpIn (Fr r) n P ops Qb i K act w := by
  have s1 : St (Aside X h2) N ds ρ h1 act w := ⟨s.size, s.defers, fun t v hv => by
    obtain ⟨x, hx, hr⟩ := s.tm t v (hρ t v hv)
    exact ⟨x, hx, hr.mono fun b hb => ⟨Imm.part.2 hb, fun o h => h⟩⟩, s.heap.part⟩
  have hw := hop (Aside X h2) r (fun e ds' a' h' => e = .normal ∧ ds' = ds ∧ ∃ δ, a' = δ ++ ρ ∧ R δ h') ds (fun δ h' hR => o_nil ⟨rfl, rfl, δ, rfl, hR⟩) act w s1 n
  refine one_conv hi (fun x act' w' ht hp => ?_) (fun e act' w' he hp => ?_) hw
  · obtain ⟨ds', a', h', ⟨_, rfl, δ, rfl, hRR⟩, s', e'⟩ := hp
    have HJ := s.heap.join s'.heap e'
    have EJ : Ext (h1 ++ h2) w (h' ++ h2) w' := e'.join
    refine hk act' w' δ h' hRR ⟨s'.size, s'.defers, fun t v hv => ?_, HJ⟩ EJ
    rcases lk_app hv with h3 | ⟨h3, h4⟩
    · have h5 : lk (δ ++ ρ) t = some v := lk_app_left h3
      obtain ⟨y, hy, hr⟩ := s'.tm t v h5
      exact ⟨y, hy, hr.mono fun b hb => ⟨Imm.part.1 hb, fun o h => h⟩⟩
    · obtain ⟨y, hy, hr⟩ := s.tm t v h4
      refine ⟨y, ?_, hr.ext EJ⟩
      rw [ht]
      cases hd : o.dst with
      | none => simpa [Act.put] using hy
      | some d =>
        obtain ⟨z, hz, e⟩ := hR δ h' hRR d hd
        have : d ≠ t := fun e2 => h3 z hz (e.trans e2)
        simp [Act.put, Array.getElem?_setIfInBounds_ne this, hy]
  · obtain ⟨ds', a', h', ⟨h5, _⟩, _⟩ := hp
    exact he h5

/-! ### a chain of operations -/
/-- How an operation of a region that draws its order stands in the chain: it only reads what is owned at first (val), or a part of it that the region doesn't write (box); it needs nothing of the heap (flo); it makes a block (new); it changes the heap, and gives perhaps a value (sto); all before it have been done (bar). -/
inductive Cls where
  | val | box | flo | new | sto | act | bar
  | alc (ob : OB)
/-- Where an operation puts its result. -/
def dstOf (ops : Array Oper) (i : Nat) : Nat := match ops[i]? with
  | some o => o.dst.getD 0
  | none => 0

def theOps (ops : Array Oper) (l : List (Nat × Cls)) : List Oper := l.filterMap fun p => ops[p.1]?

def zof (z : AHeap × AHeap) : Cls → AHeap
  | .val => z.1
  | .box => z.2
  | _ => []
def Ch (P : Program) (X : Ctx) (N : Nat) (r : Option Nat) (ops : Array Oper) (Q : Post) (ds : List Deferred) (h0 : AHeap × AHeap) : List (Nat × Cls) → Tmps → AHeap → Prop
  | [], a, h => WPs P X N r ops [] Q ds a h
  | (i, .val) :: l, a, h => ∃ o d v, ops[i]? = some o ∧ o.dst = some d ∧ OpT P N ops o (restr (o.looksAt ops) a) h0.1 [(d, v)] h0.1 ∧ Ch P X N r ops Q ds h0 l ((d, v) :: a) h
  | (i, .box) :: l, a, h => ∃ o d v, ops[i]? = some o ∧ o.dst = some d ∧ OpT P N ops o (restr (o.looksAt ops) a) h0.2 [(d, v)] h0.2 ∧ Ch P X N r ops Q ds h0 l ((d, v) :: a) h
  | (i, .flo) :: l, a, h => ∃ o d v, ops[i]? = some o ∧ o.dst = some d ∧ OpT P N ops o (restr (o.looksAt ops) a) [] [(d, v)] [] ∧ Ch P X N r ops Q ds h0 l ((d, v) :: a) h
  | (i, .new) :: l, a, h => ∃ (o : Oper) (d : Tmp) (ι : Type) (f : ι → AV) (g : ι → AHeap), ops[i]? = some o ∧ o.dst = some d ∧ OpN P N ops o (restr (o.looksAt ops) a) d f g ∧ ∀ b, Ch P X N r ops Q ds h0 l ((d, f b) :: a) (g b ++ h)
  | (i, .sto) :: l, a, h => ∃ o δ h', ops[i]? = some o ∧ (∀ t, o.dst = some t → ∃ x ∈ δ, x.1 = t) ∧ (∀ x ∈ δ, o.dst = some x.1) ∧ OpT P N ops o (restr (o.looksAt ops) a) h δ h' ∧ h0.2.Sublist h' ∧ Ch P X N r ops Q ds h0 l (δ ++ a) h'
  | (i, .act) :: l, a, h => ∃ (o : Oper) (d : Tmp) (ι : Type) (f : ι → AV) (g : ι → AHeap), ∃ hI hF, ops[i]? = some o ∧ o.dst = some d ∧ h.Perm (hI ++ hF) ∧ OpA P N ops o (restr (o.looksAt ops) a) d hI f g ∧ (∀ b, ∃ ext, (g b ++ hF).Perm (h0.2 ++ ext)) ∧ ∀ b, Ch P X N r ops Q ds h0 l ((d, f b) :: a) (g b ++ hF)
  | (i, .bar) :: l, a, h => WPs P X N r ops (theOps ops ((i, .bar) :: l)) Q ds a h
  | (i, .alc ob) :: l, a, h => ∀ b : Nat, Ch P X N r ops Q ds h0 l ((dstOf ops i, .ptr b 0) :: a) ((b, ob) :: h)
/-- A variable of one's own: what it makes does not depend on anything. -/
def AlcOk (P : Program) (N : Nat) (ops : Array Oper) (i : Nat) (ob : OB) : Prop := ∃ o d, ops[i]? = some o ∧ o.dst = some d ∧ ∀ ρ, OpN P N ops o ρ d (fun b : Nat => .ptr b 0) (fun b => [(b, ob)])
theorem AlcOk.dst {i : Nat} {ob : OB} {o : Oper} (h : AlcOk P N ops i ob) (ho : ops[i]? = some o) : o.dst = some (dstOf ops i) := by
  obtain ⟨o', d, h1, h2, _⟩ := h
  rw [ho] at h1; cases h1
  simp [dstOf, ho, h2]

theorem Ch.same {h0 : AHeap × AHeap} : ∀ {l : List (Nat × Cls)} {a a' : Tmps} {h : AHeap}, Same a a' → Ch P X N r ops Q ds h0 l a h → Ch P X N r ops Q ds h0 l a' h := by
  intro l
  induction l with
  | nil => intro a a' h e k act w s n; exact k act w (s.weaken fun t v hv => by rw [← e t]; exact hv) n
  | cons p l ih =>
    obtain ⟨i, c⟩ := p
    intro a a' h e k
    have er : ∀ L, restr L a = restr L a' := fun L => restr_congr fun t _ => e t
    cases c with
    | val => obtain ⟨o, d, v, h1, h2, h3, h4⟩ := k; exact ⟨o, d, v, h1, h2, er _ ▸ h3, ih (e.cons d v) h4⟩
    | box => obtain ⟨o, d, v, h1, h2, h3, h4⟩ := k; exact ⟨o, d, v, h1, h2, er _ ▸ h3, ih (e.cons d v) h4⟩
    | flo => obtain ⟨o, d, v, h1, h2, h3, h4⟩ := k; exact ⟨o, d, v, h1, h2, er _ ▸ h3, ih (e.cons d v) h4⟩
    | new => obtain ⟨o, d, ι, f, g, h1, h2, h3, h4⟩ := k; exact ⟨o, d, ι, f, g, h1, h2, er _ ▸ h3, fun b => ih (e.cons d _) (h4 b)⟩
    | sto => obtain ⟨o, δ, h', h1, h2, h2', h3, hz, h4⟩ := k; exact ⟨o, δ, h', h1, h2, h2', er _ ▸ h3, hz, ih (e.app δ) h4⟩
    | act => obtain ⟨o, d, ι, f, g, hI, hF, h1, h2, hp, h3, hz, h4⟩ := k; exact ⟨o, d, ι, f, g, hI, hF, h1, h2, hp, er _ ▸ h3, hz, fun b => ih (e.cons d _) (h4 b)⟩
    | bar => intro act w s n; exact k act w (s.weaken fun t v hv => by rw [← e t]; exact hv) n
    | alc ob => exact fun b => ih (e.cons _ _) (k b)
/-- The heap's order does not matter. -/
theorem Ch.perm {h0 : AHeap × AHeap} : ∀ {l : List (Nat × Cls)} {a : Tmps} {h h' : AHeap}, h.Perm h' → Ch P X N r ops Q ds h0 l a h' → Ch P X N r ops Q ds h0 l a h := by
  intro l
  induction l with
  | nil => intro a h h' p k; exact o_perm p k
  | cons q l ih =>
    obtain ⟨i, c⟩ := q
    intro a h h' p k
    cases c with
    | val => obtain ⟨o, d, v, h1, h2, h3, h4⟩ := k; exact ⟨o, d, v, h1, h2, h3, ih p h4⟩
    | box => obtain ⟨o, d, v, h1, h2, h3, h4⟩ := k; exact ⟨o, d, v, h1, h2, h3, ih p h4⟩
    | flo => obtain ⟨o, d, v, h1, h2, h3, h4⟩ := k; exact ⟨o, d, v, h1, h2, h3, ih p h4⟩
    | new => obtain ⟨o, d, ι, f, g, h1, h2, h3, h4⟩ := k; exact ⟨o, d, ι, f, g, h1, h2, h3, fun b => ih (p.append_left _) (h4 b)⟩
    | sto => obtain ⟨o, δ, h2', h1, h2, h2'', h3, hz, h4⟩ := k; exact ⟨o, δ, h2', h1, h2, h2'', fun X r Q ds kk => o_perm p (h3 X r Q ds kk), hz, h4⟩
    | act => obtain ⟨o, d, ι, f, g, hI, hF, h1, h2, hp, h3, hz, h4⟩ := k; exact ⟨o, d, ι, f, g, hI, hF, h1, h2, p.trans hp, h3, hz, h4⟩
    | bar => exact o_perm p k
    | alc ob => exact fun b => ih (p.cons _) (k b)

/-- Two operations that may come in either order. -/
def indep (ops : Array Oper) (j i : Nat) : Bool := match ops[j]?, ops[i]? with
  | some x, some y => x.apart ops y
  | _, _ => false
theorem indep_spec {j i : Nat} {x y : Oper} (h : indep ops j i = true) (hx : ops[j]? = some x) (hy : ops[i]? = some y) :
    (∀ d, x.dst = some d → d ∉ y.looksAt ops) ∧ (∀ d, x.dst = some d → y.dst ≠ some d) ∧ (∀ d, y.dst = some d → d ∉ x.looksAt ops) := by
  simp only [indep, hx, hy] at h
  exact Oper.apart_spec h
theorem restr_put {L : List Nat} {a : Tmps} {d : Nat} {v : AV} (h : d ∉ L) : restr L ((d, v) :: a) = restr L a :=
  restr_congr fun t ht => lk_other _ _ fun e => h (e ▸ ht)
theorem restr_app {L : List Nat} {a δ : Tmps} (h : ∀ x ∈ δ, x.1 ∉ L) : restr L (δ ++ a) = restr L a :=
  restr_congr fun t ht => lk_app_other fun x hx e => h x hx (e ▸ ht)

/-- Which classes may change places: the first one stands ahead in the chain. -/
def swapOk : Cls → Cls → Bool
  | .val, .val | .val, .flo | .flo, .val | .flo, .flo | .val, .new | .flo, .new | .flo, .sto => true
  | .val, .alc _ | .flo, .alc _ | .box, .alc _ | .new, .alc _ | .alc _, .alc _ | .act, .alc _ => true
  | .box, .val | .box, .flo | .val, .box | .flo, .box | .box, .box | .box, .new | .box, .sto | .box, .act | .flo, .act => true
  | _, _ => false

theorem Ch.take_val {h0 : AHeap × AHeap} {i : Nat} {c : Cls} (hc : c = .val ∨ c = .box ∨ c = .flo) {v : List (Nat × Cls)} : ∀ {u : List (Nat × Cls)} {a : Tmps} {h : AHeap}, (∀ p ∈ u, indep ops p.1 i = true ∧ swapOk p.2 c = true) →
    Ch P X N r ops Q ds h0 (u ++ (i, c) :: v) a h →
    ∃ o d x, ops[i]? = some o ∧ o.dst = some d ∧ OpT P N ops o (restr (o.looksAt ops) a) (zof h0 c) [(d, x)] (zof h0 c) ∧ Ch P X N r ops Q ds h0 (u ++ v) ((d, x) :: a) h := by
  intro u
  induction u with
  | nil =>
    intro a h _ k
    rcases hc with rfl | rfl | rfl
    all_goals (obtain ⟨o, d, x, h1, h2, h3, h4⟩ := k; exact ⟨o, d, x, h1, h2, h3, h4⟩)
  | cons p u ih =>
    obtain ⟨j, cj⟩ := p
    intro a h hu k
    obtain ⟨hj1, hj2⟩ := hu (j, cj) List.mem_cons_self
    have hu' := fun p hp => hu p (List.mem_cons_of_mem _ hp)
    have hcj : cj = .val ∨ cj = .box ∨ cj = .flo := by rcases hc with rfl | rfl | rfl <;> cases cj <;> simp [swapOk] at hj2 <;> simp
    rcases hcj with rfl | rfl | rfl
    all_goals
      obtain ⟨o, d, y, h1, h2, h3, h4⟩ := k
      obtain ⟨o', d', x, g1, g2, g3, g4⟩ := ih hu' h4
      obtain ⟨e1, e2, e3⟩ := indep_spec hj1 h1 g1
      rw [restr_put (e1 d h2)] at g3
      refine ⟨o', d', x, g1, g2, g3, o, d, y, h1, h2, by rw [restr_put (e3 d' g2)]; exact h3, g4.same (Same.swap ?_ _ _ _)⟩
      intro e; subst e; exact e2 _ h2 g2

theorem Ch.take_new {h0 : AHeap × AHeap} {i : Nat} {v : List (Nat × Cls)} : ∀ {u : List (Nat × Cls)} {a : Tmps} {h : AHeap}, (∀ p ∈ u, indep ops p.1 i = true ∧ swapOk p.2 .new = true) →
    Ch P X N r ops Q ds h0 (u ++ (i, .new) :: v) a h →
    ∃ (o : Oper) (d : Tmp) (ι : Type) (f : ι → AV) (g : ι → AHeap), ops[i]? = some o ∧ o.dst = some d ∧ OpN P N ops o (restr (o.looksAt ops) a) d f g ∧ ∀ b, Ch P X N r ops Q ds h0 (u ++ v) ((d, f b) :: a) (g b ++ h) := by
  intro u
  induction u with
  | nil => intro a h _ k; exact k
  | cons p u ih =>
    obtain ⟨j, cj⟩ := p
    intro a h hu k
    obtain ⟨hj1, hj2⟩ := hu (j, cj) List.mem_cons_self
    have hu' := fun p hp => hu p (List.mem_cons_of_mem _ hp)
    have hcj : cj = .val ∨ cj = .box ∨ cj = .flo := by cases cj <;> simp [swapOk] at hj2 <;> simp
    rcases hcj with rfl | rfl | rfl
    all_goals
      obtain ⟨o, d, y, h1, h2, h3, h4⟩ := k
      obtain ⟨o', d', ι, f, g, g1, g2, g3, g4⟩ := ih hu' h4
      obtain ⟨e1, e2, e3⟩ := indep_spec hj1 h1 g1
      rw [restr_put (e1 d h2)] at g3
      refine ⟨o', d', ι, f, g, g1, g2, g3, fun b => ⟨o, d, y, h1, h2, by rw [restr_put (e3 d' g2)]; exact h3, (g4 b).same (Same.swap ?_ _ _ _)⟩⟩
      intro e; subst e; exact e2 _ h2 g2

theorem Ch.take_alc {h0 : AHeap × AHeap} {i : Nat} {ob : OB} {oi : Oper} (hoi : ops[i]? = some oi) (hdi : oi.dst = some (dstOf ops i)) {v : List (Nat × Cls)} : ∀ {u : List (Nat × Cls)} {a : Tmps} {h : AHeap}, (∀ p ∈ u, indep ops p.1 i = true ∧ swapOk p.2 (.alc ob) = true) → (∀ j ob', (j, Cls.alc ob') ∈ u → ∃ o, ops[j]? = some o ∧ o.dst = some (dstOf ops j)) →
    Ch P X N r ops Q ds h0 (u ++ (i, .alc ob) :: v) a h →
    ∀ b : Nat, Ch P X N r ops Q ds h0 (u ++ v) ((dstOf ops i, .ptr b 0) :: a) ((b, ob) :: h) := by
  intro u
  induction u with
  | nil => intro a h _ _ k; exact k
  | cons p u ih =>
    obtain ⟨j, cj⟩ := p
    intro a h hu ha k b
    obtain ⟨hj1, hj2⟩ := hu (j, cj) List.mem_cons_self
    have hu' := fun p hp => hu p (List.mem_cons_of_mem _ hp)
    have ha' := fun j ob' hp => ha j ob' (List.mem_cons_of_mem _ hp)
    cases cj with
    | val | box | flo =>
      obtain ⟨o, d, y, h1, h2, h3, h4⟩ := k
      have g4 := ih hu' ha' h4 b
      obtain ⟨e1, e2, e3⟩ := indep_spec hj1 h1 hoi
      exact ⟨o, d, y, h1, h2, by rw [restr_put (e3 _ hdi)]; exact h3, g4.same (Same.swap (fun e => e2 d h2 (by rw [← e]; exact hdi)) _ _ _)⟩
    | new =>
      obtain ⟨o, d, ι, f, g, h1, h2, h3, h4⟩ := k
      obtain ⟨e1, e2, e3⟩ := indep_spec hj1 h1 hoi
      exact ⟨o, d, ι, f, g, h1, h2, by rw [restr_put (e3 _ hdi)]; exact h3, fun c => Ch.perm List.perm_middle ((ih hu' ha' (h4 c) b).same (Same.swap (fun e => e2 d h2 (by rw [← e]; exact hdi)) _ _ _))⟩
    | alc ob' =>
      obtain ⟨oj, hoj, hdj⟩ := ha j ob' List.mem_cons_self
      obtain ⟨e1, e2, e3⟩ := indep_spec hj1 hoj hoi
      exact fun c => Ch.perm (.swap _ _ _) ((ih hu' ha' (k c) b).same (Same.swap (fun e => e2 _ hdj (by rw [← e]; exact hdi)) _ _ _))
    | act =>
      obtain ⟨o, d, ι, f, g, hI, hF, h1, h2, hp, h3, hz, h4⟩ := k
      obtain ⟨e1, e2, e3⟩ := indep_spec hj1 h1 hoi
      refine ⟨o, d, ι, f, g, hI, (b, ob) :: hF, h1, h2, (hp.cons _).trans List.perm_middle.symm, by rw [restr_put (e3 _ hdi)]; exact h3, fun c => ?_, fun c => Ch.perm List.perm_middle ((ih hu' ha' (h4 c) b).same (Same.swap (fun e => e2 d h2 (by rw [← e]; exact hdi)) _ _ _))⟩
      obtain ⟨ext, he⟩ := hz c
      exact ⟨(b, ob) :: ext, (List.perm_middle.trans (he.cons _)).trans List.perm_middle.symm⟩
    | sto | bar => simp [swapOk] at hj2

theorem Ch.take_sto {h0 : AHeap × AHeap} {i : Nat} {v : List (Nat × Cls)} : ∀ {u : List (Nat × Cls)} {a : Tmps} {h : AHeap}, (∀ p ∈ u, indep ops p.1 i = true ∧ swapOk p.2 .sto = true) →
    Ch P X N r ops Q ds h0 (u ++ (i, .sto) :: v) a h →
    ∃ o δ h', ops[i]? = some o ∧ (∀ t, o.dst = some t → ∃ x ∈ δ, x.1 = t) ∧ (∀ x ∈ δ, o.dst = some x.1) ∧ OpT P N ops o (restr (o.looksAt ops) a) h δ h' ∧ h0.2.Sublist h' ∧ Ch P X N r ops Q ds h0 (u ++ v) (δ ++ a) h' := by
  intro u
  induction u with
  | nil => intro a h _ k; exact k
  | cons p u ih =>
    obtain ⟨j, cj⟩ := p
    intro a h hu k
    obtain ⟨hj1, hj2⟩ := hu (j, cj) List.mem_cons_self
    have hu' := fun p hp => hu p (List.mem_cons_of_mem _ hp)
    have hcj : cj = .flo ∨ cj = .box := by cases cj <;> simp [swapOk] at hj2 <;> simp
    rcases hcj with rfl | rfl
    all_goals
      obtain ⟨o, d, y, h1, h2, h3, h4⟩ := k
      obtain ⟨o', δ, h', g1, g2, g2', g3, gz, g4⟩ := ih hu' h4
      obtain ⟨e1, e2, e3⟩ := indep_spec hj1 h1 g1
      rw [restr_put (e1 d h2)] at g3
      refine ⟨o', δ, h', g1, g2, g2', g3, gz, o, d, y, h1, h2, by rw [restr_app fun x hx => e3 _ (g2' x hx)]; exact h3, g4.same (Same.swaps _ _ _ fun x hx e => ?_)⟩
      exact e2 _ h2 (by rw [g2' x hx, e])

theorem Ch.take_act {h0 : AHeap × AHeap} {i : Nat} {v : List (Nat × Cls)} : ∀ {u : List (Nat × Cls)} {a : Tmps} {h : AHeap}, (∀ p ∈ u, indep ops p.1 i = true ∧ swapOk p.2 .act = true) →
    Ch P X N r ops Q ds h0 (u ++ (i, .act) :: v) a h →
    ∃ (o : Oper) (d : Tmp) (ι : Type) (f : ι → AV) (g : ι → AHeap), ∃ hI hF, ops[i]? = some o ∧ o.dst = some d ∧ h.Perm (hI ++ hF) ∧ OpA P N ops o (restr (o.looksAt ops) a) d hI f g ∧ (∀ b, ∃ ext, (g b ++ hF).Perm (h0.2 ++ ext)) ∧ ∀ b, Ch P X N r ops Q ds h0 (u ++ v) ((d, f b) :: a) (g b ++ hF) := by
  intro u
  induction u with
  | nil => intro a h _ k; exact k
  | cons p u ih =>
    obtain ⟨j, cj⟩ := p
    intro a h hu k
    obtain ⟨hj1, hj2⟩ := hu (j, cj) List.mem_cons_self
    have hu' := fun p hp => hu p (List.mem_cons_of_mem _ hp)
    have hcj : cj = .flo ∨ cj = .box := by cases cj <;> simp [swapOk] at hj2 <;> simp
    rcases hcj with rfl | rfl
    all_goals
      obtain ⟨o, d, y, h1, h2, h3, h4⟩ := k
      obtain ⟨o', d', ι, f, g, hI, hF, g1, g2, gp, g3, gz, g4⟩ := ih hu' h4
      obtain ⟨e1, e2, e3⟩ := indep_spec hj1 h1 g1
      rw [restr_put (e1 d h2)] at g3
      refine ⟨o', d', ι, f, g, hI, hF, g1, g2, gp, g3, gz, fun b => ⟨o, d, y, h1, h2, by rw [restr_put (e3 d' g2)]; exact h3, (g4 b).same (Same.swap ?_ _ _ _)⟩⟩
      intro e; subst e; exact e2 _ h2 g2
end
end Go.Proofs.YtnoicbajhlpndaaGreat.Hp
/- A region that draws its order comes to where its chain comes. -/
namespace Go.Proofs.YtnoicbajhlpndaaGreat.Hp
open Go Go.RowKit Go.Shelf
set_option linter.unusedVariables false
set_option linter.unusedSimpArgs false

/-! ### what must come ahead of an operation -/
def maskOf (l : List Edge) (acc : List Nat) : Nat := match l with
  | [] => 0
  | e :: r => if Region.binds .any e then maskOf r acc ||| 2 ^ e.on ||| (acc[e.on]?).getD 0 else maskOf r acc
def masks : List Oper → List Nat → List Nat
  | [], acc => acc
  | o :: r, acc => masks r (acc ++ [maskOf o.after.toList acc])
def msk (M : List Nat) (i : Nat) : Nat := (M[i]?).getD 0

theorem maskOf_spec {acc : List Nat} {k : Nat} : ∀ {l : List Edge}, (maskOf l acc).testBit k = true → ∃ e ∈ l, Region.binds .any e = true ∧ (k = e.on ∨ (msk acc e.on).testBit k = true) := by
  intro l
  induction l with
  | nil => intro h; simp [maskOf] at h
  | cons e r ih =>
    intro h
    simp only [maskOf] at h
    split at h
    · rename_i hb
      simp only [Nat.testBit_or, Nat.testBit_two_pow, Bool.or_eq_true, decide_eq_true_eq] at h
      rcases h with (h | h) | h
      · obtain ⟨e', h1, h2⟩ := ih h; exact ⟨e', List.mem_cons_of_mem _ h1, h2⟩
      · exact ⟨e, List.mem_cons_self, hb, .inl h.symm⟩
      · exact ⟨e, List.mem_cons_self, hb, .inr h⟩
    · obtain ⟨e', h1, h2⟩ := ih h; exact ⟨e', List.mem_cons_of_mem _ h1, h2⟩
theorem maskOf_edge {acc : List Nat} : ∀ {l : List Edge} {e : Edge}, e ∈ l → Region.binds .any e = true → (maskOf l acc).testBit e.on = true := by
  intro l
  induction l with
  | nil => intro e h; cases h
  | cons x r ih =>
    intro e h hb
    simp only [maskOf]
    rcases List.mem_cons.1 h with rfl | h
    · rw [if_pos hb]; simp [Nat.testBit_or, Nat.testBit_two_pow]
    · split
      · simp [Nat.testBit_or, ih h hb]
      · exact ih h hb
theorem masks_ext : ∀ (l : List Oper) (acc : List Nat) (i : Nat), i < acc.length → (masks l acc)[i]? = acc[i]? := by
  intro l
  induction l with
  | nil => intro acc i h; rfl
  | cons o r ih =>
    intro acc i h
    simp only [masks]
    rw [ih _ _ (by simp; omega), List.getElem?_append_left h]
theorem masks_at : ∀ (l : List Oper) (acc : List Nat) (i : Nat) (o : Oper), l[i]? = some o → ∃ acc', msk (masks l acc) (acc.length + i) = maskOf o.after.toList acc' ∧ ∀ k, k < acc'.length → acc'[k]? = (masks l acc)[k]? := by
  intro l
  induction l with
  | nil => intro acc i o h; simp at h
  | cons x r ih =>
    intro acc i o h
    cases i with
    | zero =>
      simp only [List.getElem?_cons_zero, Option.some.injEq] at h; subst h
      refine ⟨acc, ?_, fun k hk => ?_⟩
      · simp only [msk, masks, Nat.add_zero]
        rw [masks_ext _ _ _ (by simp), List.getElem?_append_right (Nat.le_refl _)]
        simp
      · simp only [masks]
        rw [masks_ext _ _ _ (by simp; omega), List.getElem?_append_left hk]
    | succ i =>
      obtain ⟨acc', h1, h2⟩ := ih (acc ++ [maskOf x.after.toList acc]) i o (by simpa using h)
      refine ⟨acc', ?_, h2⟩
      simp only [masks]
      rw [← h1]
      simp; congr 1; omega
def clo (ops : Array Oper) : List Nat := masks ops.toList []
theorem clo_spec {ops : Array Oper} {i k : Nat} {o : Oper} (ho : ops[i]? = some o) (h : (msk (clo ops) i).testBit k = true) : ∃ e ∈ o.after, Region.binds .any e = true ∧ (k = e.on ∨ (msk (clo ops) e.on).testBit k = true) := by
  obtain ⟨acc', h1, h2⟩ := masks_at ops.toList [] i o (by simpa using ho)
  simp only [List.length_nil, Nat.zero_add] at h1
  simp only [clo] at h
  rw [h1] at h
  obtain ⟨e, h3, h4, h5⟩ := maskOf_spec h
  refine ⟨e, by simpa using h3, h4, ?_⟩
  rcases h5 with h5 | h5
  · exact .inl h5
  · refine .inr ?_
    by_cases hk : e.on < acc'.length
    · have := h2 _ hk
      simp only [msk, clo] at h5 ⊢
      rw [← this]; exact h5
    · simp only [msk] at h5
      rw [List.getElem?_eq_none (by omega)] at h5
      simp at h5
theorem clo_edge {ops : Array Oper} {i : Nat} {o : Oper} (ho : ops[i]? = some o) {e : Edge} (he : e ∈ o.after) (hb : Region.binds .any e = true) : (msk (clo ops) i).testBit e.on = true := by
  obtain ⟨acc', h1, _⟩ := masks_at ops.toList [] i o (by simpa using ho)
  simp only [List.length_nil, Nat.zero_add] at h1
  simp only [clo]
  rw [h1]
  exact maskOf_edge (by simpa using he) hb

/-! ### whether a chain stands in an order that the region may draw, and all others come to the same -/
def clsOk : Cls → Cls → Bool
  | .sto, .val => false
  | .sto, .box => false
  | .act, .val => false
  | .act, .box => false
  | .bar, .bar => true
  | .bar, _ => false
  | _, _ => true
def pairOk (ops : Array Oper) (M : List Nat) (p q : Nat × Cls) : Bool :=
  clsOk p.2 q.2 && (!(msk M p.1).testBit q.1 && (p.1 != q.1 && ((msk M q.1).testBit p.1 || (swapOk p.2 q.2 && indep ops p.1 q.1))))
def allOk (ops : Array Oper) (M : List Nat) : List (Nat × Cls) → Bool
  | [] => true
  | p :: l => !(msk M p.1).testBit p.1 && (l.all (pairOk ops M p) && allOk ops M l)
def chainOk (ops : Array Oper) (l : List (Nat × Cls)) : Bool :=
  Nat.ble l.length ops.size && ((List.range ops.size).all (fun i => l.any fun p => p.1 == i) && (l.all (fun p => Nat.blt p.1 ops.size) && (ops.toList.all (fun o => o.after.toList.all fun e => Nat.blt e.on ops.size) && allOk ops (clo ops) l)))

theorem allOk_mid {ops : Array Oper} {M : List Nat} {q : Nat × Cls} {v : List (Nat × Cls)} : ∀ {u : List (Nat × Cls)}, allOk ops M (u ++ q :: v) = true →
    (∀ p ∈ u, pairOk ops M p q = true) ∧ (∀ p ∈ v, pairOk ops M q p = true) ∧ allOk ops M (u ++ v) = true ∧ (msk M q.1).testBit q.1 = false := by
  intro u
  induction u with
  | nil =>
    intro h
    simp only [List.nil_append, allOk, Bool.and_eq_true, Bool.not_eq_true', List.all_eq_true] at h
    exact ⟨by simp, h.2.1, h.2.2, h.1⟩
  | cons p u ih =>
    intro h
    simp only [List.cons_append, allOk, Bool.and_eq_true, Bool.not_eq_true', List.all_eq_true] at h
    obtain ⟨h1, h2, h3, h4⟩ := ih h.2.2
    refine ⟨fun x hx => ?_, h2, ?_, h4⟩
    · rcases List.mem_cons.1 hx with rfl | hx
      · exact h.2.1 q (by simp)
      · exact h1 x hx
    · simp only [List.cons_append, allOk, Bool.and_eq_true, Bool.not_eq_true', List.all_eq_true]
      refine ⟨h.1, fun x hx => h.2.1 x ?_, h3⟩
      rcases List.mem_append.1 hx with hx | hx
      · exact List.mem_append_left _ hx
      · exact List.mem_append_right _ (List.mem_cons_of_mem _ hx)

/-- What is still to be done, and what is listed. -/
structure Pend (ops : Array Oper) (l : List (Nat × Cls)) (listed : Array Bool) : Prop where
  size : listed.size = ops.size
  pend : ∀ i, i < ops.size → (listed.getD i false = false ↔ ∃ c, (i, c) ∈ l)
  lt : ∀ p ∈ l, p.1 < ops.size
  ok : allOk ops (clo ops) l = true
  rng : ∀ (i : Nat) (o : Oper) (e : Edge), ops[i]? = some o → e ∈ o.after → e.on < ops.size
  ac : ∀ j k, listed.getD j false = true → (msk (clo ops) j).testBit k = true → listed.getD k false = true

section
variable {P : Program} {X : Ctx} {N : Nat} {r : Option Nat} {Q : Post} {ds : List Deferred} {a : Tmps} {h : AHeap} {ops : Array Oper} {l : List (Nat × Cls)} {listed : Array Bool}

theorem getD_of_lt {i : Nat} (hl : i < listed.size) (d e : Bool) : listed.getD i d = listed.getD i e := by simp [Array.getD, hl]

theorem Pend.ready {i : Nat} (hp : Pend ops l listed) (hi : i ∈ Region.ready .any ops listed) :
    ∃ o u c v, ops[i]? = some o ∧ l = u ++ (i, c) :: v ∧ (∀ p ∈ u, indep ops p.1 i = true ∧ swapOk p.2 c = true) ∧ (∀ p ∈ v, clsOk c p.2 = true) ∧ Pend ops (u ++ v) (listed.setIfInBounds i true) := by
  obtain ⟨h1, o, ho, h2⟩ := mem_ready.1 hi
  have hlt : i < ops.size := (Array.getElem?_eq_some_iff.1 ho).1
  have hlt' : i < listed.size := by rw [hp.size]; exact hlt
  have h1' : listed.getD i false = false := by rw [getD_of_lt hlt' false true]; exact h1
  obtain ⟨c, hc⟩ := (hp.pend i hlt).1 h1'
  obtain ⟨u, v, rfl⟩ := List.append_of_mem hc
  obtain ⟨k1, k2, k3, k4⟩ := allOk_mid hp.ok
  have hbits : ∀ k, (msk (clo ops) i).testBit k = true → listed.getD k false = true := fun k hk => by
    obtain ⟨e, he, hb, hh⟩ := clo_spec ho hk
    have hl := h2 e he hb
    rcases hh with rfl | hh
    · exact hl
    · exact hp.ac _ _ hl hh
  have hun : ∀ p ∈ u ++ (i, c) :: v, listed.getD p.1 false = false := fun p hp' => (hp.pend p.1 (hp.lt p hp')).2 ⟨p.2, hp'⟩
  refine ⟨o, u, c, v, ho, rfl, fun p hpu => ?_, fun p hpv => ?_, ?_⟩
  · have := k1 p hpu
    simp only [pairOk, Bool.and_eq_true, Bool.or_eq_true] at this
    rcases this.2.2.2 with hh | hh
    · have h3 := hbits _ hh
      rw [hun p (List.mem_append_left _ hpu)] at h3; cases h3
    · exact ⟨hh.2, hh.1⟩
  · have := k2 p hpv
    simp only [pairOk, Bool.and_eq_true] at this
    exact this.1
  · have hne : ∀ p ∈ u ++ v, p.1 ≠ i := fun p hpp => by
      rcases List.mem_append.1 hpp with hh | hh
      · have := k1 p hh
        simp only [pairOk, Bool.and_eq_true, bne_iff_ne] at this
        exact this.2.2.1
      · have := k2 p hh
        simp only [pairOk, Bool.and_eq_true, bne_iff_ne] at this
        exact Ne.symm this.2.2.1
    refine ⟨by simp [hp.size], fun j hj => ?_, fun p hpp => hp.lt p ?_, k3, hp.rng, fun j k hj hk => ?_⟩
    · by_cases hji : j = i
      · subst hji
        constructor
        · intro hh; simp [hlt'] at hh
        · rintro ⟨c', hc'⟩; exact absurd rfl (hne _ hc')
      · rw [getD_set_ne false (Ne.symm hji), hp.pend j hj]
        constructor
        · rintro ⟨c', hc'⟩
          refine ⟨c', ?_⟩
          rcases List.mem_append.1 hc' with hh | hh
          · exact List.mem_append_left _ hh
          · rcases List.mem_cons.1 hh with hh | hh
            · cases hh; exact absurd rfl hji
            · exact List.mem_append_right _ hh
        · rintro ⟨c', hc'⟩
          refine ⟨c', ?_⟩
          rcases List.mem_append.1 hc' with hh | hh
          · exact List.mem_append_left _ hh
          · exact List.mem_append_right _ (List.mem_cons_of_mem _ hh)
    · rcases List.mem_append.1 hpp with hh | hh
      · exact List.mem_append_left _ hh
      · exact List.mem_append_right _ (List.mem_cons_of_mem _ hh)
    · by_cases hji : j = i
      · subst hji; exact getD_set_true (hbits k hk)
      · rw [getD_set_ne false (Ne.symm hji)] at hj
        exact getD_set_true (hp.ac j k hj hk)

theorem Pend.stuck (hp : Pend ops l listed) (h0 : Region.ready .any ops listed = []) : l = [] := by
  cases l with
  | nil => rfl
  | cons p l =>
    exfalso
    have hlt := hp.lt p List.mem_cons_self
    have hlt' : p.1 < listed.size := by rw [hp.size]; exact hlt
    have hun : listed.getD p.1 false = false := (hp.pend p.1 hlt).2 ⟨p.2, List.mem_cons_self⟩
    obtain ⟨_, k2, _, k4⟩ := allOk_mid (u := []) hp.ok
    have : p.1 ∈ Region.ready .any ops listed := by
      refine mem_ready.2 ⟨by rw [getD_of_lt hlt' true false]; exact hun, ops[p.1], by simp [hlt], fun e he hb => ?_⟩
      have hbit := clo_edge (ops := ops) (i := p.1) (o := ops[p.1]) (by simp [hlt]) he hb
      cases hl : listed.getD e.on false with
      | true => rfl
      | false =>
        exfalso
        by_cases heo : e.on < ops.size
        · obtain ⟨c, hc⟩ := (hp.pend e.on heo).1 hl
          rcases List.mem_cons.1 hc with hh | hh
          · have : e.on = p.1 := congrArg Prod.fst hh
            rw [this] at hbit; rw [hbit] at k4; cases k4
          · have := k2 _ hh
            simp only [pairOk, Bool.and_eq_true, Bool.not_eq_true'] at this
            rw [this.2.1] at hbit; cases hbit
        · exact heo (hp.rng p.1 _ e (by simp [hlt]) he)
    rw [h0] at this; cases this

theorem bar_run {F : Fence} {n : Nat} {Qc : Exit → Act → World → Prop} : ∀ (fuel : Nat) (l : List (Nat × Cls)) (listed : Array Bool) (act : Act) (w : World), l.length ≤ fuel → (∀ p ∈ l, p.2 = .bar) → Pend ops l listed →
    opsIn F n P ops Qc (theOps ops l) act w → wpAnyIn F n P .any ops Qc fuel listed act w := by
  intro fuel
  induction fuel with
  | zero =>
    intro l listed act w hl hb hp k
    have : l = [] := List.length_eq_zero_iff.1 (by omega)
    subst this
    refine ⟨?_, k⟩
    cases hr : Region.ready .any ops listed with
    | nil => rfl
    | cons i rs =>
      exfalso
      obtain ⟨o, u, c, v, _, e, _⟩ := hp.ready (i := i) (by rw [hr]; simp)
      have := congrArg List.length e; simp at this
  | succ fuel ih =>
    intro l listed act w hl hb hp k
    refine ⟨fun h0 => ?_, fun i hi => ?_⟩
    · have := hp.stuck h0; subst this; exact k
    · obtain ⟨o, u, c, v, ho, rfl, h1, h2, h3⟩ := hp.ready hi
      have hc : c = .bar := hb (i, c) (by simp)
      subst hc
      have hu : u = [] := by
        cases u with
        | nil => rfl
        | cons p u =>
          have := (h1 p (by simp)).2
          rw [hb p (by simp)] at this; cases this
      subst hu
      have e : theOps ops (([] : List (Nat × Cls)) ++ (i, .bar) :: v) = o :: theOps ops v := by simp [theOps, ho]
      rw [e] at k
      have key := ih v (listed.setIfInBounds i true)
      refine wpOpIn_mono (K := opsIn F n P ops Qc (theOps ops v)) (fun a' w' k' => key a' w' (by simp at hl; omega) (fun p hp => hb p (by simp [hp])) (by simpa using h3) k') ?_
      unfold wpOpIn
      simp only [ho]
      simp only [opsIn] at k
      exact k

theorem any_run {n : Nat} {h0 : AHeap × AHeap} {h1 : AHeap} {w1 : World} : ∀ (fuel : Nat) (l : List (Nat × Cls)) (listed : Array Bool) (a : Tmps) (h : AHeap) (act : Act) (w : World), l.length ≤ fuel → Pend ops l listed →
    (∀ i ob, (i, Cls.alc ob) ∈ l → AlcOk P N ops i ob) → ((∃ p ∈ l, p.2 = Cls.val) → ∃ ext, h.Perm (h0.1 ++ ext)) → (∃ ext, h.Perm (h0.2 ++ ext)) → Ch P X N r ops Q ds h0 l a h → St X N ds a h act w → Ext h1 w1 h w → wpAnyIn (Fr r) n P .any ops (post X N Q h1 w1) fuel listed act w := by
  intro fuel
  induction fuel with
  | zero =>
    intro l listed a h act w hl hp hal hv hz k s e
    have : l = [] := List.length_eq_zero_iff.1 (by omega)
    subst this
    refine ⟨?_, post_ext e (k act w s n)⟩
    cases hr : Region.ready .any ops listed with
    | nil => rfl
    | cons i rs =>
      exfalso
      obtain ⟨o, u, c, v, _, e, _⟩ := hp.ready (i := i) (by rw [hr]; simp)
      have := congrArg List.length e; simp at this
  | succ fuel ih =>
    intro l listed a h act w hl hp hal hv hz k s e
    refine ⟨fun h0 => ?_, fun i hi => ?_⟩
    · have := hp.stuck h0; subst this; exact post_ext e (k act w s n)
    · obtain ⟨o, u, c, v, ho, rfl, g1, g2, g3⟩ := hp.ready hi
      have hlen : (u ++ v).length ≤ fuel := by simp at hl ⊢; omega
      have hal' : ∀ j ob, (j, Cls.alc ob) ∈ u ++ v → AlcOk P N ops j ob := fun j ob hm => hal j ob (by
        rcases List.mem_append.1 hm with hh | hh
        · exact List.mem_append_left _ hh
        · exact List.mem_append_right _ (List.mem_cons_of_mem _ hh))
      have hvv : (∃ p ∈ u ++ v, p.2 = Cls.val) → ∃ p ∈ u ++ (i, c) :: v, p.2 = Cls.val := by
        rintro ⟨p, hp1, hp2⟩
        refine ⟨p, ?_, hp2⟩
        rcases List.mem_append.1 hp1 with hh | hh
        · exact List.mem_append_left _ hh
        · exact List.mem_append_right _ (List.mem_cons_of_mem _ hh)
      cases c with
      | val =>
        obtain ⟨o', d, x, k1, k2, k3, k4⟩ := Ch.take_val (.inl rfl) g1 k
        rw [ho] at k1; cases k1
        obtain ⟨ext, hperm⟩ := hv ⟨(i, .val), by simp, rfl⟩
        replace k3 : OpT P N ops o (restr (o.looksAt ops) a) h0.1 [(d, x)] h0.1 := k3
        refine frame1 (h1 := h0.1) (h2 := ext) (ρ := restr (o.looksAt ops) a) (a := a) ho (fun δ h' => δ = [(d, x)] ∧ h' = h0.1) (fun X r Q ds kk => k3 X r Q ds (kk _ _ ⟨rfl, rfl⟩)) (fun δ h' hR t ht => by
          obtain ⟨rfl, rfl⟩ := hR; rw [k2] at ht; cases ht; exact ⟨_, List.mem_cons_self, rfl⟩) (fun t v => lk_restr) (s.perm hperm) ?_
        rintro act' w' δ h' ⟨rfl, rfl⟩ s' e'
        exact ih (u ++ v) _ _ h act' w' hlen g3 hal' (fun hh => hv (hvv hh)) hz k4 (s'.perm hperm.symm) (e.trans ((Ext.perm w hperm).trans (e'.trans (Ext.perm w' hperm.symm))))
      | box =>
        obtain ⟨o', d, x, k1, k2, k3, k4⟩ := Ch.take_val (.inr (.inl rfl)) g1 k
        rw [ho] at k1; cases k1
        obtain ⟨ext, hperm⟩ := id hz
        replace k3 : OpT P N ops o (restr (o.looksAt ops) a) h0.2 [(d, x)] h0.2 := k3
        refine frame1 (h1 := h0.2) (h2 := ext) (ρ := restr (o.looksAt ops) a) (a := a) ho (fun δ h' => δ = [(d, x)] ∧ h' = h0.2) (fun X r Q ds kk => k3 X r Q ds (kk _ _ ⟨rfl, rfl⟩)) (fun δ h' hR t ht => by
          obtain ⟨rfl, rfl⟩ := hR; rw [k2] at ht; cases ht; exact ⟨_, List.mem_cons_self, rfl⟩) (fun t v => lk_restr) (s.perm hperm) ?_
        rintro act' w' δ h' ⟨rfl, rfl⟩ s' e'
        exact ih (u ++ v) _ _ h act' w' hlen g3 hal' (fun hh => hv (hvv hh)) hz k4 (s'.perm hperm.symm) (e.trans ((Ext.perm w hperm).trans (e'.trans (Ext.perm w' hperm.symm))))
      | flo =>
        obtain ⟨o', d, x, k1, k2, k3, k4⟩ := Ch.take_val (.inr (.inr rfl)) g1 k
        rw [ho] at k1; cases k1
        replace k3 : OpT P N ops o (restr (o.looksAt ops) a) [] [(d, x)] [] := k3
        refine frame1 (h1 := []) (h2 := h) (ρ := restr (o.looksAt ops) a) (a := a) ho (fun δ h' => δ = [(d, x)] ∧ h' = []) (fun X r Q ds kk => k3 X r Q ds (kk _ _ ⟨rfl, rfl⟩)) (fun δ h' hR t ht => by
          obtain ⟨rfl, rfl⟩ := hR; rw [k2] at ht; cases ht; exact ⟨_, List.mem_cons_self, rfl⟩) (fun t v => lk_restr) s ?_
        rintro act' w' δ h' ⟨rfl, rfl⟩ s' e'
        exact ih (u ++ v) _ _ h act' w' hlen g3 hal' (fun hh => hv (hvv hh)) hz k4 s' (e.trans e')
      | new =>
        obtain ⟨o', d, ι, f, g, k1, k2, k3, k4⟩ := Ch.take_new g1 k
        rw [ho] at k1; cases k1
        refine frame1 (h1 := []) (h2 := h) (ρ := restr (o.looksAt ops) a) (a := a) ho (fun δ h' => ∃ b, δ = [(d, f b)] ∧ h' = g b) (fun X r Q ds kk => k3 X r Q ds fun b => kk _ _ ⟨b, rfl, rfl⟩) (fun δ h' hR t ht => by
          obtain ⟨b, rfl, rfl⟩ := hR; rw [k2] at ht; cases ht; exact ⟨_, List.mem_cons_self, rfl⟩) (fun t v => lk_restr) s ?_
        rintro act' w' δ h' ⟨b, rfl, rfl⟩ s' e'
        have grow : ∀ hh : AHeap, (∃ ext, h.Perm (hh ++ ext)) → ∃ ext, (g b ++ h).Perm (hh ++ ext) := by
          rintro hh ⟨ext, hperm⟩
          refine ⟨g b ++ ext, (List.Perm.append_left _ hperm).trans ?_⟩
          rw [← List.append_assoc, ← List.append_assoc]
          exact List.Perm.append_right _ List.perm_append_comm
        exact ih (u ++ v) _ _ (g b ++ h) act' w' hlen g3 hal' (fun hh => grow _ (hv (hvv hh))) (grow _ hz) (k4 b) s' (e.trans e')
      | alc ob =>
        have hao := hal i ob (by simp)
        have hdi := hao.dst ho
        have k4 := Ch.take_alc ho hdi g1 (fun j ob' hm => by
          obtain ⟨o2, d2, q1, q2, q3⟩ := hal j ob' (List.mem_append_left _ hm)
          exact ⟨o2, q1, AlcOk.dst ⟨o2, d2, q1, q2, q3⟩ q1⟩) k
        obtain ⟨o', d, k1, k2, k3⟩ := hao
        rw [ho] at k1; cases k1
        have ed : d = dstOf ops i := by rw [k2] at hdi; exact Option.some.inj hdi
        refine frame1 (h1 := []) (h2 := h) (ρ := restr (o.looksAt ops) a) (a := a) ho (fun δ h' => ∃ b : Nat, δ = [(d, .ptr b 0)] ∧ h' = [(b, ob)]) (fun X r Q ds kk => k3 _ X r Q ds fun b => kk _ _ ⟨b, rfl, rfl⟩) (fun δ h' hR t ht => by
          obtain ⟨b, rfl, rfl⟩ := hR; rw [k2] at ht; cases ht; exact ⟨_, List.mem_cons_self, rfl⟩) (fun t v => lk_restr) s ?_
        rintro act' w' δ h' ⟨b, rfl, rfl⟩ s' e'
        have grow : ∀ hh : AHeap, (∃ ext, h.Perm (hh ++ ext)) → ∃ ext, ([(b, ob)] ++ h).Perm (hh ++ ext) := by
          rintro hh ⟨ext, hperm⟩
          refine ⟨[(b, ob)] ++ ext, (List.Perm.append_left _ hperm).trans ?_⟩
          rw [← List.append_assoc, ← List.append_assoc]
          exact List.Perm.append_right _ List.perm_append_comm
        exact ih (u ++ v) _ _ ([(b, ob)] ++ h) act' w' hlen g3 hal' (fun hh => grow _ (hv (hvv hh))) (grow _ hz) (by rw [ed]; exact k4 b) s' (e.trans e')
      | sto =>
        obtain ⟨o', δ0, h2, k1, k2, k2', k3, kz, k4⟩ := Ch.take_sto g1 k
        rw [ho] at k1; cases k1
        refine frame1 (h1 := h) (h2 := []) (ρ := restr (o.looksAt ops) a) (a := a) ho (fun δ h' => δ = δ0 ∧ h' = h2) (fun X r Q ds kk => k3 X r Q ds (kk _ _ ⟨rfl, rfl⟩)) (fun δ h' hR t ht => by
          obtain ⟨rfl, rfl⟩ := hR; exact k2 t ht) (fun t v => lk_restr) (by rw [List.append_nil]; exact s) ?_
        rintro act' w' δ h' ⟨rfl, rfl⟩ s' e'
        rw [List.append_nil] at s' e'
        rw [List.append_nil] at e'
        refine ih (u ++ v) _ _ h' act' w' hlen g3 hal' (fun hh => ?_) (by obtain ⟨l2, hl2⟩ := kz.exists_perm_append; exact ⟨l2, hl2⟩) k4 s' (e.trans e')
        obtain ⟨p, hp1, hp2⟩ := hh
        exfalso
        rcases List.mem_append.1 hp1 with hh | hh
        · have := (g1 p hh).2; rw [hp2] at this; cases this
        · have := g2 p hh; rw [hp2] at this; cases this
      | act =>
        obtain ⟨o', d, ι, f, g, hI, hF, k1, k2, kp, k3, kz, k4⟩ := Ch.take_act g1 k
        rw [ho] at k1; cases k1
        refine frame1 (h1 := hI) (h2 := hF) (ρ := restr (o.looksAt ops) a) (a := a) ho (fun δ h' => ∃ b, δ = [(d, f b)] ∧ h' = g b) (fun X r Q ds kk => k3 X r Q ds fun b => kk _ _ ⟨b, rfl, rfl⟩) (fun δ h' hR t ht => by
          obtain ⟨b, rfl, rfl⟩ := hR; rw [k2] at ht; cases ht; exact ⟨_, List.mem_cons_self, rfl⟩) (fun t v => lk_restr) (s.perm kp) ?_
        rintro act' w' δ h' ⟨b, rfl, rfl⟩ s' e'
        refine ih (u ++ v) _ _ (g b ++ hF) act' w' hlen g3 hal' (fun hh => ?_) (kz b) (k4 b) s' (e.trans ((Ext.perm w kp).trans e'))
        obtain ⟨p, hp1, hp2⟩ := hh
        exfalso
        rcases List.mem_append.1 hp1 with hh | hh
        · have := (g1 p hh).2; rw [hp2] at this; cases this
        · have := g2 p hh; rw [hp2] at this; cases this
      | bar =>
        have hu : u = [] := by
          cases u with
          | nil => rfl
          | cons p u =>
            have := (g1 p (by simp)).2
            revert this; cases p.2 <;> simp [swapOk]
        subst hu
        have hbars : ∀ p ∈ (i, Cls.bar) :: v, p.2 = .bar := by
          intro p hp'
          rcases List.mem_cons.1 hp' with rfl | hh
          · rfl
          · have := g2 p hh
            revert this; cases p.2 <;> simp [clsOk]
        have := bar_run (fuel + 1) ((i, .bar) :: v) listed act w hl hbars hp (opsIn_mono (fun e' a2 w2 p => post_ext e p) _ _ _ (k act w s n))
        exact this.2 i hi

/-- **A region that draws its order**, by a chain. -/
theorem h_drawA {id : Nat} (hk : AHeap) (hks : hk.Sublist h) (l : List (Nat × Cls)) (hal : ∀ i ob, (i, Cls.alc ob) ∈ l → AlcOk P N ops i ob) (hm : P.follows .mixedOrders = true) (hl : chainOk ops l = true) (k : Ch P X N r ops Q ds (h, hk) l a h) : WP P X N r (.region id ops true) Q ds a h := by
  intro act w s n
  refine wpIn_region_any hm ?_
  have e0 : Ext h w h { w with drawn := w.drawn + 1 } := ⟨rfl, rfl, rfl, Nat.le_refl _, fun _ _ _ => rfl, fun _ _ hm => hm, fun _ _ => rfl⟩
  have H0 : Holds X h { w with drawn := w.drawn + 1 } := ⟨s.heap.nodup, s.heap.nox, s.heap.xlt, s.heap.gh, s.heap.rel⟩
  have s0 := s.keep e0 H0
  simp only [chainOk, Bool.and_eq_true, List.all_eq_true, List.any_eq_true, List.mem_range, beq_iff_eq, Nat.blt_eq] at hl
  obtain ⟨c0, c1, c2, c3, c4⟩ := hl
  have hp : Pend ops l (Array.replicate ops.size false) := by
    refine ⟨by simp, fun i hi => ⟨fun _ => ?_, fun _ => by simp [hi]⟩, c2, c4, fun i o e ho he => ?_, fun j k hj => ?_⟩
    · obtain ⟨p, hp1, hp2⟩ := c1 i hi
      exact ⟨p.2, by rw [← hp2]; exact hp1⟩
    · exact c3 o (by
        have := Array.mem_of_getElem? ho
        simpa using this) e (by simpa using he)
    · exfalso
      by_cases hj' : j < ops.size
      · simp [hj'] at hj
      · simp [hj'] at hj
  have hlen : l.length ≤ ops.size := Nat.le_of_ble_eq_true c0
  exact any_run ops.size l _ a h act _ hlen hp hal (fun _ => ⟨[], by simp⟩) hks.exists_perm_append k s0 e0
def noAlc : List (Nat × Cls) → Bool
  | [] => true
  | (_, .alc _) :: _ => false
  | _ :: l => noAlc l
theorem noAlc_spec : ∀ {l : List (Nat × Cls)}, noAlc l = true → ∀ i ob, (i, Cls.alc ob) ∉ l
  | [], _, _, _, h => by cases h
  | (j, c) :: l, hn, i, ob, h => by
    rcases List.mem_cons.1 h with e | h
    · cases e; simp [noAlc] at hn
    · refine noAlc_spec (l := l) ?_ i ob h
      cases c <;> simp [noAlc] at hn ⊢ <;> exact hn
theorem h_draw {id : Nat} (hk : AHeap) (hks : hk.Sublist h) (l : List (Nat × Cls)) (hm : P.follows .mixedOrders = true) (hl : chainOk ops l = true) (k : Ch P X N r ops Q ds (h, hk) l a h) (hn : noAlc l = true := by rfl) : WP P X N r (.region id ops true) Q ds a h :=
  h_drawA hk hks l (fun i ob hm => absurd hm (noAlc_spec hn i ob)) hm hl k
def alcsOf : List (Nat × Cls) → List (Nat × OB)
  | [] => []
  | (i, .alc ob) :: l => (i, ob) :: alcsOf l
  | _ :: l => alcsOf l
def AllAl (P : Program) (N : Nat) (ops : Array Oper) : List (Nat × OB) → Prop
  | [] => True
  | (i, ob) :: l => AlcOk P N ops i ob ∧ AllAl P N ops l
theorem allAl_mem : ∀ {l : List (Nat × OB)}, AllAl P N ops l → ∀ i ob, (i, ob) ∈ l → AlcOk P N ops i ob
  | [], _, _, _, h => by cases h
  | (j, o) :: l, hj, i, ob, h => by
    rcases List.mem_cons.1 h with e | h
    · cases e; exact hj.1
    · exact allAl_mem (l := l) hj.2 i ob h
theorem alcsOf_mem : ∀ {l : List (Nat × Cls)} {i : Nat} {ob : OB}, (i, Cls.alc ob) ∈ l → (i, ob) ∈ alcsOf l
  | [], _, _, h => by cases h
  | (j, c) :: l, i, ob, h => by
    rcases List.mem_cons.1 h with e | h
    · cases e; exact List.mem_cons_self
    · have ih := alcsOf_mem (l := l) h
      cases c <;> first | exact ih | exact List.mem_cons_of_mem _ ih
theorem alc_all {l : List (Nat × Cls)} (h : AllAl P N ops (alcsOf l)) : ∀ i ob, (i, Cls.alc ob) ∈ l → AlcOk P N ops i ob := fun i ob hm => allAl_mem h i ob (alcsOf_mem hm)
end
end Go.Proofs.YtnoicbajhlpndaaGreat.Hp
