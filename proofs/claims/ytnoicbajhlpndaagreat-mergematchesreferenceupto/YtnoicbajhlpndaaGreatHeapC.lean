/- More rules: the steps of a chain; nil checks; slices that are plain data at once. -/
import Derived.Test.YtnoicbajhlpndaaGreatHeapB
import Derived.MapKept
import Derived.DefersIn
import Derived.RecoverIn
import Derived.Laws.MakeOwn
import Derived.Test.YtnoicbajhlpndaaGreatProg
import Derived.KernelRfl
namespace Go.Proofs.YtnoicbajhlpndaaGreat.Hp
open Go Go.RowKit Go.Shelf
set_option linter.unusedVariables false
set_option linter.unusedSimpArgs false
section
variable {P : Program} {X : Ctx} {N : Nat} {r : Option Nat} {Q : Post} {ds : List Deferred} {a : Tmps} {h h0 hk : AHeap} {ops : Array Oper} {l : List (Nat × Cls)} {i : Nat}

theorem c_val {o : Oper} {d : Tmp} {v : AV} (ho : ops[i]? = some o) (hd : o.dst = some d)
    (hop : ∀ X r Q ds, WPs P X N r ops [] Q ds ((d, v) :: restr (o.looksAt ops) a) h0 → WPs P X N r ops [o] Q ds (restr (o.looksAt ops) a) h0) (k : Ch P X N r ops Q ds (h0, hk) l ((d, v) :: a) h) : Ch P X N r ops Q ds (h0, hk) ((i, .val) :: l) a h :=
  ⟨o, d, v, ho, hd, hop, k⟩
theorem c_box {o : Oper} {d : Tmp} {v : AV} (ho : ops[i]? = some o) (hd : o.dst = some d)
    (hop : ∀ X r Q ds, WPs P X N r ops [] Q ds ((d, v) :: restr (o.looksAt ops) a) hk → WPs P X N r ops [o] Q ds (restr (o.looksAt ops) a) hk) (k : Ch P X N r ops Q ds (h0, hk) l ((d, v) :: a) h) : Ch P X N r ops Q ds (h0, hk) ((i, .box) :: l) a h :=
  ⟨o, d, v, ho, hd, hop, k⟩
theorem c_flo {o : Oper} {d : Tmp} {v : AV} (ho : ops[i]? = some o) (hd : o.dst = some d)
    (hop : ∀ X r Q ds, WPs P X N r ops [] Q ds ((d, v) :: restr (o.looksAt ops) a) [] → WPs P X N r ops [o] Q ds (restr (o.looksAt ops) a) []) (k : Ch P X N r ops Q ds (h0, hk) l ((d, v) :: a) h) : Ch P X N r ops Q ds (h0, hk) ((i, .flo) :: l) a h :=
  ⟨o, d, v, ho, hd, hop, k⟩
theorem c_new {o : Oper} {d : Tmp} {ob : OB} (ho : ops[i]? = some o) (hd : o.dst = some d)
    (hop : ∀ X r Q ds, (∀ b, WPs P X N r ops [] Q ds ((d, .ptr b 0) :: restr (o.looksAt ops) a) [(b, ob)]) → WPs P X N r ops [o] Q ds (restr (o.looksAt ops) a) []) (k : ∀ b, Ch P X N r ops Q ds (h0, hk) l ((d, .ptr b 0) :: a) ((b, ob) :: h)) : Ch P X N r ops Q ds (h0, hk) ((i, .new) :: l) a h :=
  ⟨o, d, Nat, fun b => .ptr b 0, fun b => [(b, ob)], ho, hd, hop, k⟩
theorem c_newG {o : Oper} {d : Tmp} {ι : Type} (f : ι → AV) (g : ι → AHeap) (ho : ops[i]? = some o) (hd : o.dst = some d)
    (hop : ∀ X r Q ds, (∀ b, WPs P X N r ops [] Q ds ((d, f b) :: restr (o.looksAt ops) a) (g b)) → WPs P X N r ops [o] Q ds (restr (o.looksAt ops) a) []) (k : ∀ b, Ch P X N r ops Q ds (h0, hk) l ((d, f b) :: a) (g b ++ h)) : Ch P X N r ops Q ds (h0, hk) ((i, .new) :: l) a h :=
  ⟨o, d, ι, f, g, ho, hd, hop, k⟩
theorem c_alc {d : Nat} {ob : OB} (hd : dstOf ops i = d) (k : ∀ b : Nat, Ch P X N r ops Q ds (h0, hk) l ((d, .ptr b 0) :: a) ((b, ob) :: h)) : Ch P X N r ops Q ds (h0, hk) ((i, .alc ob) :: l) a h := by subst hd; exact k
theorem alc_ok {d : Nat} {t : TypeId} {zs : List PV} {ty : TypeId} {pos : String} {aft : Array Edge} {ob : OB} [hz : ZeroC P t zs] (ho : ops[i]? = some ⟨some d, .alloc t, ty, pos, aft, none⟩) (hN : d < N) (he : OB.box t (zs.map .p) = ob) : AlcOk P N ops i ob := by
  subst he
  exact ⟨_, d, ho, rfl, fun ρ X r Q ds kk => o_alloc hN kk⟩
theorem c_sto {o : Oper} {h' : AHeap} (hz : hk.Sublist h') (ho : ops[i]? = some o) (hd : o.dst = none)
    (hop : ∀ X r Q ds, WPs P X N r ops [] Q ds (restr (o.looksAt ops) a) h' → WPs P X N r ops [o] Q ds (restr (o.looksAt ops) a) h) (k : Ch P X N r ops Q ds (h0, hk) l a h') : Ch P X N r ops Q ds (h0, hk) ((i, .sto) :: l) a h :=
  ⟨o, [], h', ho, fun t ht => (by rw [hd] at ht; cases ht), (by simp), hop, hz, k⟩
theorem c_stov {o : Oper} {h' : AHeap} {d : Tmp} {v : AV} (hz : hk.Sublist h') (ho : ops[i]? = some o) (hd : o.dst = some d)
    (hop : ∀ X r Q ds, WPs P X N r ops [] Q ds ((d, v) :: restr (o.looksAt ops) a) h' → WPs P X N r ops [o] Q ds (restr (o.looksAt ops) a) h) (k : Ch P X N r ops Q ds (h0, hk) l ((d, v) :: a) h') : Ch P X N r ops Q ds (h0, hk) ((i, .sto) :: l) a h :=
  ⟨o, [(d, v)], h', ho, fun t ht => ⟨(d, v), List.mem_cons_self, (by rw [hd] at ht; cases ht; rfl)⟩, fun x hx => (by simp at hx; subst hx; exact hd), hop, hz, k⟩
theorem c_act {o : Oper} {d : Tmp} {ι : Type} (f : ι → AV) (g : ι → AHeap) (hz : ∀ b, hk.Sublist (g b)) (ho : ops[i]? = some o) (hd : o.dst = some d)
    (hop : ∀ X r Q ds, (∀ b, WPs P X N r ops [] Q ds ((d, f b) :: restr (o.looksAt ops) a) (g b)) → WPs P X N r ops [o] Q ds (restr (o.looksAt ops) a) h) (k : ∀ b, Ch P X N r ops Q ds (h0, hk) l ((d, f b) :: a) (g b)) : Ch P X N r ops Q ds (h0, hk) ((i, .act) :: l) a h :=
  ⟨o, d, ι, f, g, h, [], ho, hd, by simp, hop, fun b => by obtain ⟨l2, hl2⟩ := (hz b).exists_perm_append; exact ⟨l2, by simpa using hl2⟩, fun b => by rw [List.append_nil]; exact k b⟩
/-- One that turns a part of the heap. -/
theorem c_actF {o : Oper} {d : Tmp} {ι : Type} (f : ι → AV) (g : ι → AHeap) (hI hF : AHeap) (hp : h.Perm (hI ++ hF)) (hz : ∀ b, hk.Sublist (g b ++ hF)) (ho : ops[i]? = some o) (hd : o.dst = some d)
    (hop : ∀ X r Q ds, (∀ b, WPs P X N r ops [] Q ds ((d, f b) :: restr (o.looksAt ops) a) (g b)) → WPs P X N r ops [o] Q ds (restr (o.looksAt ops) a) hI) (k : ∀ b, Ch P X N r ops Q ds (h0, hk) l ((d, f b) :: a) (g b ++ hF)) : Ch P X N r ops Q ds (h0, hk) ((i, .act) :: l) a h :=
  ⟨o, d, ι, f, g, hI, hF, ho, hd, hp, hop, fun b => (hz b).exists_perm_append, k⟩
theorem c_bar (k : WPs P X N r ops (theOps ops ((i, .bar) :: l)) Q ds a h) : Ch P X N r ops Q ds (h0, hk) ((i, .bar) :: l) a h := k
theorem c_nil (k : Q .normal ds a h) : Ch P X N r ops Q ds (h0, hk) [] a h := o_nil k
/-- A test that is not known yet, ahead of what it guards. -/
theorem c_split {t : Tmp} {b : Bool} (ht : lk a t = some (B b)) (ky : b = true → Ch P X N r ops Q ds (h0, hk) l a h) (kn : b = false → Ch P X N r ops Q ds (h0, hk) l a h) : Ch P X N r ops Q ds (h0, hk) l a h := by
  cases hb : b with
  | true => exact ky hb
  | false => exact kn hb

variable {rest : List Oper} {d : Tmp} {ty : TypeId} {pos : String} {aft : Array Edge}
theorem o_nilp {x : Operand} {b off : Nat} (hx : ev a x = some (.ptr b off)) (hN : d < N) (k : WPs P X N r ops rest Q ds ((d, .ptr b off) :: a) h) : WPs P X N r ops (⟨some d, .nilCheck x, ty, pos, aft, none⟩ :: rest) Q ds a h :=
  o_pure hN (by intro c e; cases e) (fun act w s => by
    have hr0 := s.ev hx
    generalize hxv : act.eval x = y at hr0
    cases hr0
    exact ⟨_, by simp [execOp, hxv, Sem.run_pure], .ptr _ _⟩) k
/-- A new slice, nobody's own: plain data. -/
theorem frz_new {b te k c' : Nat} {es : List (List PV)} {len cap : Nat} {f : Bool} (hl : len = es.length) (hc : len ≤ cap) (hf : f = true → cap = len)
    (kk : WPs P X N r ops rest Q ds ((d, V es f) :: a) h) : WPs P X N r ops rest Q ds ((d, .os b k 0 len cap) :: a) ((b, .arr te k es c') :: h) := by
  subst hl
  refine o_frz h (fun hn => (List.nodup_cons.1 hn).2) (fun b o ho => ⟨o, List.mem_cons_of_mem _ ho, .refl _⟩) (fun hn t v hv => ?_) kk
  by_cases ht : d = t
  · subst ht
    rw [lk_same] at hv; cases hv
    refine ⟨_, lk_same _ _ _, ?_⟩
    have := FrzA.os (h := (b, OB.arr te k es c') :: h) (h' := h) b k 0 es.length cap te es c' f List.mem_cons_self (List.nodup_cons.1 hn).1 (by simp) hc hf
    rw [List.drop_zero, List.take_of_length_le (Nat.le_refl _)] at this
    exact this
  · rw [lk_other _ _ ht] at hv
    exact ⟨v, by rw [lk_other _ _ ht]; exact hv, .refl _⟩
theorem o_buildSlicep {t : TypeId} {len : Nat} {parts : Array (Nat × Operand)} {ps : List (Nat × AV)} {te k by_ : Nat} {zs : List PV} {out : List AV} {pout : List PV} [hs : SliceC P t te k by_] [hz : ZeroC P te zs] (hx : evp a parts.toList = some ps)
    (hb : bldA (plA k) ps ((rep len zs).map .p) = some out) (hp : pcells out = some pout) (hsmall : Nat.ble (len * k) 16777216 = true) (hzl : zs.length = k) (hN : d < N)
    (kk : WPs P X N r ops rest Q ds ((d, V (chunk k len pout) true) :: a) h) : WPs P X N r ops (⟨some d, .buildSlice t len parts, ty, pos, aft, none⟩ :: rest) Q ds a h :=
  o_buildSlice hx hb hp hsmall hzl hN fun b => frz_new (by rw [chunk_length]) (Nat.le_refl _) (fun _ => rfl) kk
end
end Go.Proofs.YtnoicbajhlpndaaGreat.Hp
/- Helpers for walks: states of loops as lists; searches; cuts from a place on. -/
namespace Go.Proofs.YtnoicbajhlpndaaGreat.Hp
open Go Go.RowKit Go.Shelf
set_option linter.unusedVariables false
set_option linter.unusedSimpArgs false

/-- What is known of temporaries in a list holds. -/
def subT (a : Tmps) : Tmps → Prop
  | [] => True
  | (t, v) :: r => lk a t = some v ∧ subT a r
theorem subT.nil {a : Tmps} : subT a [] := trivial
theorem subT.cons {a r : Tmps} {t : Nat} {v : AV} (h : lk a t = some v) (k : subT a r) : subT a ((t, v) :: r) := ⟨h, k⟩
theorem subT.out {a : Tmps} : ∀ {s : Tmps}, subT a s → ∀ t v, lk s t = some v → lk a t = some v := by
  intro s
  induction s with
  | nil => intro _ t v h; cases h
  | cons x r ih =>
    obtain ⟨u, w⟩ := x
    intro h t v hv
    by_cases e : u = t
    · subst e; rw [lk_same] at hv; cases hv; exact h.1
    · rw [lk_other _ _ e] at hv; exact ih h.2 t v hv

section
variable {P : Program} {X : Ctx} {N : Nat} {r : Option Nat} {Q : Post} {ds : List Deferred} {a : Tmps} {h : AHeap}
variable {ops : Array Oper} {rest : List Oper} {d : Tmp} {ty : TypeId} {pos : String} {aft : Array Edge}
/-- 's[l:]' of plain data. -/
theorem o_tail {t : TypeId} {x y : Operand} {es : List (List PV)} {f : Bool} {te k by_ : Nat} {i : Int} (hx : ev a x = some (V es f)) [hs : SliceC P t te k by_]
    (hy : ev a y = some (I i)) (h1 : 0 ≤ i) (h2 : i.toNat ≤ es.length) (hke : ∀ e ∈ es, e.length = k) (hN : d < N)
    (kk : WPs P X N r ops rest Q ds ((d, V (es.drop i.toNat) f) :: a) h) : WPs P X N r ops (⟨some d, .slice t x (some y) none none, ty, pos, aft, none⟩ :: rest) Q ds a h :=
  o_cut (l := i.toNat) (n := es.length) (o1' := some i) (hi' := none) (mx' := none) hx (by simp only [optI, hy]) rfl rfl (by simp; omega) rfl (.inl rfl) (.inl rfl) h2 (Nat.le_refl _) hke hN (by
    rw [List.take_of_length_le (by simp)]
    simpa using kk)
/-- 's[:n]' of plain data. -/
theorem o_front {t : TypeId} {x y : Operand} {es : List (List PV)} {f : Bool} {te k by_ : Nat} {i : Int} (hx : ev a x = some (V es f)) [hs : SliceC P t te k by_]
    (hy : ev a y = some (I i)) (h1 : 0 ≤ i) (h2 : i.toNat ≤ es.length) (hke : ∀ e ∈ es, e.length = k) (hN : d < N)
    (kk : WPs P X N r ops rest Q ds ((d, V (es.take i.toNat) (f && Nat.beq i.toNat es.length)) :: a) h) : WPs P X N r ops (⟨some d, .slice t x none (some y) none, ty, pos, aft, none⟩ :: rest) Q ds a h :=
  o_cut (l := 0) (n := i.toNat) (o1' := none) (hi' := some i) (mx' := none) hx rfl (by simp only [optI, hy]) rfl rfl (by simp; omega) (.inl rfl) (.inl rfl) (Nat.zero_le _) h2 hke hN (by simpa using kk)
end

/-- The first place at which a test holds. -/
def fst? (p : Nat → Bool) : Nat → Nat → Option Nat
  | 0, _ => none
  | n + 1, k => if p k then some k else fst? p n (k + 1)
def idxOf (p : Nat → Bool) (n : Nat) : Int := match fst? p n 0 with
  | some k => k
  | none => -1
def cntOf (p : Nat → Bool) (n : Nat) : Nat := match fst? p n 0 with
  | some k => k + 1
  | none => n
theorem fst_none {p : Nat → Bool} : ∀ (n k : Nat), (∀ j, k ≤ j → j < k + n → p j = false) → fst? p n k = none
  | 0, _, _ => rfl
  | n + 1, k, h => by
    simp only [fst?]
    rw [h k (Nat.le_refl _) (by omega)]
    exact fst_none n (k + 1) fun j h1 h2 => h j (by omega) (by omega)
theorem fst_some {p : Nat → Bool} : ∀ (n k i : Nat), k ≤ i → i < k + n → p i = true → (∀ j, k ≤ j → j < i → p j = false) → fst? p n k = some i
  | 0, k, i, h1, h2, _, _ => by omega
  | n + 1, k, i, h1, h2, h3, h4 => by
    simp only [fst?]
    by_cases e : k = i
    · subst e; rw [if_pos h3]
    · rw [h4 k (Nat.le_refl _) (by omega)]
      exact fst_some n (k + 1) i (by omega) (by omega) h3 fun j h5 h6 => h4 j (by omega) h6
theorem fst_inv {p : Nat → Bool} : ∀ (n k i : Nat), fst? p n k = some i → k ≤ i ∧ i < k + n ∧ p i = true ∧ ∀ j, k ≤ j → j < i → p j = false
  | 0, k, i, h => by cases h
  | n + 1, k, i, h => by
    simp only [fst?] at h
    split at h
    · rename_i hp; cases h; exact ⟨Nat.le_refl _, by omega, hp, fun j h1 h2 => by omega⟩
    · rename_i hp
      obtain ⟨h1, h2, h3, h4⟩ := fst_inv n (k + 1) i h
      refine ⟨by omega, by omega, h3, fun j h5 h6 => ?_⟩
      by_cases e : j = k
      · subst e; simpa using hp
      · exact h4 j (by omega) h6
theorem idx_some {p : Nat → Bool} {n k : Nat} (hk : k < n) (h : p k = true) (hb : ∀ j, j < k → p j = false) : idxOf p n = k ∧ cntOf p n = k + 1 := by
  have := fst_some (p := p) n 0 k (Nat.zero_le _) (by omega) h fun j _ hj => hb j hj
  simp [idxOf, cntOf, this]
theorem idx_none {p : Nat → Bool} {n : Nat} (hb : ∀ j, j < n → p j = false) : idxOf p n = -1 ∧ cntOf p n = n := by
  have := fst_none (p := p) n 0 fun j _ hj => hb j (by omega)
  simp [idxOf, cntOf, this]
theorem idx_any {p : Nat → Bool} {n : Nat} : decide (idxOf p n ≥ 0) = (List.range n).any p := by
  cases h : fst? p n 0 with
  | none =>
    have hn : ∀ j, j < n → p j = false := by
      intro j hj
      cases hp : p j with
      | false => rfl
      | true =>
        obtain ⟨m, hm, hl⟩ := exists_least (p := fun j => p j = true ∧ j < n) j ⟨hp, hj⟩
        have := fst_some (p := p) n 0 m (Nat.zero_le _) (by omega) hm.1 fun i _ hi => by
          cases hp2 : p i with
          | false => rfl
          | true => exact absurd (hl i ⟨hp2, by omega⟩) (by omega)
        rw [this] at h; cases h
    have e : (List.range n).any p = false := by
      rw [List.any_eq_false]
      intro j hj
      rw [hn j (List.mem_range.1 hj)]; simp
    rw [e]
    simp [idxOf, h]
  | some k =>
    obtain ⟨_, h2, h3, _⟩ := fst_inv n 0 k h
    have e : (List.range n).any p = true := List.any_eq_true.2 ⟨k, List.mem_range.2 (by omega), h3⟩
    rw [e]
    simp [idxOf, h]
end Go.Proofs.YtnoicbajhlpndaaGreat.Hp
/- Helpers for walks: loops that leave garbage; calls that own one block, or the end of the heap. -/
namespace Go.Proofs.YtnoicbajhlpndaaGreat.Hp
open Go Go.RowKit Go.Shelf
set_option linter.unusedVariables false
set_option linter.unusedSimpArgs false
section
variable {P : Program} {X : Ctx} {N : Nat} {r : Option Nat} {Q : Post} {ds : List Deferred} {a : Tmps} {h : AHeap}

theorem Holds.sub {h' : AHeap} {w : World} (H : Holds X h w) (hs : h'.Sublist h) : Holds X h' w :=
  H.frz ((hs.map Prod.fst).nodup H.nodup) fun b o ho => ⟨o, hs.subset ho, .refl _⟩
theorem dom_sub {h' : AHeap} (hs : h'.Sublist h) : ∀ b, b ∈ dom h' → b ∈ dom h := fun b hb => (hs.map Prod.fst).subset hb
theorem St.sub {h' : AHeap} {act : Act} {w : World} (s : St X N ds a h act w) (hs : h'.Sublist h) : St X N ds a h' act w :=
  ⟨s.size, s.defers, fun t v hv => by
    obtain ⟨x, hx, hr⟩ := s.tm t v hv
    exact ⟨x, hx, hr.mono (Imm.less (dom_sub hs))⟩, s.heap.sub hs⟩
/-- Garbage is forgotten. -/
theorem h_sub {c : Code} (h' : AHeap) (hs : h'.Sublist h) (k : WP P X N r c Q ds a h') : WP P X N r c Q ds a h :=
  fun act w s n => wpIn_mono (k act w (s.sub hs) n) fun e a2 w2 p => post_ext (Ext.frz w (dom_sub hs)) p
theorem o_drop {ops : Array Oper} {l : List Oper} (h' : AHeap) (hs : h'.Sublist h) (k : WPs P X N r ops l Q ds a h') : WPs P X N r ops l Q ds a h :=
  fun act w s n => opsIn_mono (fun e a2 w2 p => post_ext (Ext.frz w (dom_sub hs)) p) _ _ _ (k act w (s.sub hs) n)
/-- A round's end: a state of the family that is nearer to the end. -/
def Back {ι : Type} (S : ι → Tmps) (H : ι → AHeap) (m : ι → Nat) (i : ι) (ds ds' : List Deferred) (a' : Tmps) (h' : AHeap) : Prop := ds' = ds ∧ ∃ j, m j < m i ∧ (H j).Sublist h' ∧ subT a' (S j)
theorem back {ι : Type} {S : ι → Tmps} {H : ι → AHeap} {m : ι → Nat} {i : ι} {ds ds' : List Deferred} {a' : Tmps} {h' : AHeap} (e : ds' = ds) (j : ι) (h1 : m j < m i) (h2 : (H j).Sublist h') (h3 : subT a' (S j)) : Back S H m i ds ds' a' h' := ⟨e, j, h1, h2, h3⟩
/-- A loop, by a family of states; each round may leave garbage. -/
theorem h_famS {ι : Type} (S : ι → Tmps) (H : ι → AHeap) (m : ι → Nat) (i0 : ι) (h0 : (H i0).Sublist h) (a0 : subT a (S i0)) {c : Code}
    (round : ∀ i, WP P X N r c (thn (Back S H m i ds) Q) ds (S i) (H i)) : WP P X N r (.loop c) Q ds a h := by
  refine h_sub (H i0) h0 (h_loop S H m i0 rfl a0.out fun i => ?_)
  intro act w s n
  refine wpIn_mono (round i act w s n) ?_
  rintro e a' w' ⟨ds', a'', h', q, s', x'⟩
  cases e with
  | normal =>
    obtain ⟨rfl, j, h1, h2, h3⟩ := q
    exact ⟨ds', a'', H j, ⟨rfl, j, h1, rfl, h3.out⟩, s'.sub h2, x'.trans (Ext.frz w' (dom_sub h2))⟩
  | _ => exact ⟨ds', a'', h', q, s', x'⟩

variable {ops : Array Oper} {rest : List Oper} {d : Tmp} {ty : TypeId} {pos : String} {aft : Array Edge}
/-- A yield whose round owns the end of the heap. -/
theorem o_yieldR {g : Operand} {xs : Array Operand} {ats : Array TypeId} {l : Nat} {vs : List AV} {h2 h1 : AHeap} {R : Bool → AHeap → Prop} (hh : h = h2 ++ h1) (hg : ev a g = some (.yl l)) (hx : evs a xs.toList = some vs) (hN : d < N)
    (hs : ∀ Y : Ctx, Y.gh = X.gh → YdX P Y l vs h1 R) (k : ∀ b h', R b h' → WPs P X N none ops rest Q ds ((d, B b) :: a) (h2 ++ h')) :
    WPs P X N none ops (⟨some d, .call { callee := .value g, args := xs, argTypes := ats }, ty, pos, aft, none⟩ :: rest) Q ds a h :=
  o_yield hg hx hN ⟨by rw [hh]; exact List.perm_append_comm⟩ (hs _ rfl) fun b h' hr => o_perm List.perm_append_comm (k b h' hr)
/-- A call that owns the end of the heap. -/
theorem o_callR {g : Operand} {xs : Array Operand} {ats : Array TypeId} {f : FuncId} {caps vs : List AV} {h2 h1 : AHeap} {R : AV → AHeap → Prop} (hh : h = h2 ++ h1)
    (hg : ev a g = some (.fn f caps)) (hx : evs a xs.toList = some vs) (he : Enters P f) (hN : d < N) (hs : Fc P f (vs ++ caps) h1 R) (k : ∀ v h', R v h' → WPs P X N r ops rest Q ds ((d, v) :: a) (h2 ++ h')) :
    WPs P X N r ops (⟨some d, .call { callee := .value g, args := xs, argTypes := ats }, ty, pos, aft, none⟩ :: rest) Q ds a h :=
  o_call hg hx he hN ⟨by rw [hh]; exact List.perm_append_comm⟩ hs fun v h' hr => o_perm List.perm_append_comm (k v h' hr)
/-- A call that owns one block, and gives it back. -/
theorem o_callB (i : Nat) {g : Operand} {xs : Array Operand} {ats : Array TypeId} {f : FuncId} {caps vs : List AV} {b : Nat} {ob : OB} {R : AV → OB → Prop} (hh : h[i]? = some (b, ob))
    (hg : ev a g = some (.fn f caps)) (hx : evs a xs.toList = some vs) (he : Enters P f) (hN : d < N) (hs : Fc P f (vs ++ caps) [(b, ob)] fun v h' => ∃ ob', h' = [(b, ob')] ∧ R v ob') (k : ∀ v ob', R v ob' → WPs P X N r ops rest Q ds ((d, v) :: a) (h.set i (b, ob'))) :
    WPs P X N r ops (⟨some d, .call { callee := .value g, args := xs, argTypes := ats }, ty, pos, aft, none⟩ :: rest) Q ds a h := by
  have hlt : i < h.length := (List.getElem?_eq_some_iff.1 hh).1
  have hge : h[i] = (b, ob) := (List.getElem?_eq_some_iff.1 hh).2
  have e1 : h = h.take i ++ (b, ob) :: h.drop (i + 1) := by
    rw [← hge, List.getElem_cons_drop, List.take_append_drop]
  have p1 : h.Perm ([(b, ob)] ++ (h.take i ++ h.drop (i + 1))) := by
    conv => lhs; rw [e1]
    exact List.perm_middle
  refine o_call hg hx he hN ⟨p1⟩ hs fun v h' hr => ?_
  obtain ⟨ob', rfl, hr⟩ := hr
  have e2 : h.set i (b, ob') = h.take i ++ (b, ob') :: h.drop (i + 1) := List.set_eq_take_append_cons_drop.trans (by rw [if_pos hlt])
  refine o_perm (h' := h.set i (b, ob')) ?_ (k v ob' hr)
  rw [e2]
  show ((b, ob') :: (h.take i ++ h.drop (i + 1))).Perm _
  exact List.perm_middle.symm
theorem iterX_intro {g : FuncId} {caps : List AV} {hI : AHeap} {es : List (List AV)}
    (k : ∀ (l : Nat) (J : Nat → AHeap → Prop) (Jx : AHeap → Prop) (hB : AHeap),
      (∀ X' : Ctx, X'.gh = X.gh → ∀ i args h1, es[i]? = some args → J i h1 → YdX P X' l args h1 fun b h' => (b = true ∧ J (i + 1) h') ∨ (b = false ∧ Jx h')) → J 0 hB →
      FnX P X g (.yl l :: caps) (hI ++ hB) fun E h' => E = .ret (.tup []) ∧ (J es.length h' ∨ Jx h')) : IterX P X g caps hI es := k
end
end Go.Proofs.YtnoicbajhlpndaaGreat.Hp
/- Helpers for walks: results behind loops over functions. -/
namespace Go.Proofs.YtnoicbajhlpndaaGreat.Hp
open Go Go.RowKit Go.Shelf
set_option linter.unusedVariables false
set_option linter.unusedSimpArgs false
section
variable {P : Program} {X : Ctx} {N : Nat} {r : Option Nat} {Q : Post} {ds : List Deferred} {a : Tmps} {h : AHeap}
theorem frz_os {b k len cap c' : Nat} {ty : TypeId} {es : List (List PV)} (hm : (b, OB.arr ty k es c') ∈ h) (hl : len = es.length) (hc : len ≤ cap) : FrzA h [] (.os b k 0 len cap) (V es false) := by
  subst hl
  have := FrzA.os (h := h) (h' := []) b k 0 es.length cap ty es c' false hm (by simp [dom]) (by simp) hc (by simp)
  rwa [List.drop_zero, List.take_of_length_le (Nat.le_refl _)] at this
theorem frz_tup2 {h' : AHeap} {v x v' x' : AV} (h1 : FrzA h h' v v') (h2 : FrzA h h' x x') : FrzA h h' (.tup [v, x]) (.tup [v', x']) :=
  .tup _ _ rfl fun i c d hc hd => by
    match i with
    | 0 => cases hc; cases hd; exact h1
    | 1 => cases hc; cases hd; exact h2
    | i + 2 => cases hc
theorem cav_nil : cav (.slice none 0 0) = V [] true := rfl
theorem cav_int (n : Int) : cav (.int .i64 n) = I n := rfl
theorem cav_bool (b : Bool) : cav (.bool b) = B b := rfl
abbrev mark (D : Nat) : Nat × OB := (D, .obj (.deferred (some [])))
/-- Two results; nothing is owned behind the call. Ds: the marks of the loops over functions that have been. -/
theorem retD2 {R : AEnd → AHeap → Prop} {t u : Tmp} {v x v' x' : AV} (Ds : List Nat) (hds : ds = marks Ds) (hnd : Ds.Nodup) (hD : ∀ D ∈ Ds, mark D ∈ h) (hv : lk a t = some v) (hx : lk a u = some x) (f1 : FrzA h [] v v') (f2 : FrzA h [] x x') (k : R (.ret (.tup [v', x'])) []) : RetP P [.tmp t, .tmp u] R ds a h :=
  ⟨Ds, [v, x], .tup [v', x'], [], hds, hnd, (fun D hD' => ⟨hD D hD', by simp [dom]⟩), .cons (.tmp hv) (.cons (.tmp hx) .nil), frz_tup2 f1 f2, (fun _ => List.nodup_nil), (by intro b o h; cases h), k⟩
theorem retD1 {R : AEnd → AHeap → Prop} {t : Tmp} {v v' : AV} (Ds : List Nat) (hds : ds = marks Ds) (hnd : Ds.Nodup) (hD : ∀ D ∈ Ds, mark D ∈ h) (hv : lk a t = some v) (f1 : FrzA h [] v v') (k : R (.ret v') []) : RetP P [.tmp t] R ds a h :=
  ⟨Ds, [v], v', [], hds, hnd, (fun D hD' => ⟨hD D hD', by simp [dom]⟩), .cons (.tmp hv) .nil, f1, (fun _ => List.nodup_nil), (by intro b o h; cases h), k⟩
end
theorem Fc.perm1 {P : Program} {f : FuncId} {args : List AV} {h h2 : AHeap} {v : AV} (p : h2.Perm h) (k : Fc P f args h (fun r h' => r = v ∧ h' = h)) : Fc P f args h2 (fun r h' => r = v ∧ h' = h2) := by
  intro X w vals H hv
  refine (k X w vals (H.perm p) (hv.mono fun b hb => ⟨⟨hb.1, fun hm => hb.2.1 ((p.map Prod.fst).mem_iff.2 hm), hb.2.2⟩, fun o h => h⟩)).mono ?_
  rintro e w' ⟨E, h', ⟨r, rfl, rfl, rfl⟩, b, c, d⟩
  refine ⟨_, h2, ⟨_, rfl, rfl, rfl⟩, ?_, c.perm p.symm, (Ext.perm w p).trans (d.trans (Ext.perm w' p.symm))⟩
  cases b with
  | ret hr => exact .ret (hr.mono fun b hb => ⟨⟨hb.1, fun hm => hb.2.1 ((p.map Prod.fst).mem_iff.1 hm), hb.2.2⟩, fun o h => h⟩)
end Go.Proofs.YtnoicbajhlpndaaGreat.Hp
/- More rules: regions in all their orders; panics; comparisons with nil; maps. -/
namespace Go.Proofs.YtnoicbajhlpndaaGreat.Hp
open Go Go.RowKit Go.Shelf
set_option linter.unusedVariables false
set_option linter.unusedSimpArgs false

section
variable {P : Program} {X : Ctx} {N : Nat} {r : Option Nat} {Q : Post} {ds : List Deferred} {a : Tmps} {h : AHeap} {ops : Array Oper}
/-- Two parts, with one state between them. -/
theorem h_seqJ {ι : Type} {x y : Code} (S : ι → Tmps) (H : ι → AHeap) (k1 : WP P X N r x (thn (fun ds' a' h' => ds' = ds ∧ ∃ i, (∃ h2, h'.Perm h2 ∧ (H i).Sublist h2) ∧ subT a' (S i)) Q) ds a h) (k2 : ∀ i, WP P X N r y Q ds (S i) (H i)) : WP P X N r (.seq x y) Q ds a h :=
  h_seq (h_conseq k1 fun e ds' a' h' q => by
    cases e with
    | normal =>
      obtain ⟨rfl, i, ⟨h2, hp, hs⟩, hsub⟩ := q
      exact h_perm hp (h_sub _ hs (h_weaken hsub.out (k2 i)))
    | _ => exact q)
def Join {ι : Type} (S : ι → Tmps) (H : ι → AHeap) (ds ds' : List Deferred) (a' : Tmps) (h' : AHeap) : Prop := ds' = ds ∧ ∃ i, (∃ h2, h'.Perm h2 ∧ (H i).Sublist h2) ∧ subT a' (S i)
theorem join {ι : Type} {S : ι → Tmps} {H : ι → AHeap} {ds ds' : List Deferred} {a' : Tmps} {h' : AHeap} (e : ds' = ds) (i : ι) {h2 : AHeap} (hp : h'.Perm h2) (hs : (H i).Sublist h2) (h3 : subT a' (S i)) : Join S H ds ds' a' h' := ⟨e, i, ⟨h2, hp, hs⟩, h3⟩
theorem h_seqK {ι : Type} {x y : Code} (S : ι → Tmps) (H : ι → AHeap) (k1 : WP P X N r x (thn (Join S H ds) Q) ds a h) (k2 : ∀ i, WP P X N r y Q ds (S i) (H i)) : WP P X N r (.seq x y) Q ds a h := h_seqJ S H k1 k2

variable {rest : List Oper} {d : Tmp} {ty : TypeId} {pos : String} {aft : Array Edge}
theorem o_panic {x : Operand} {t : TypeId} {v : Value} (hx : ev a x = some (.p (.raw (.iface t v)))) (k : Q (.panic [{ v := .iface t v, recovered := false }]) ds a h) : WPs P X N r ops (⟨none, .panic x, ty, pos, aft, none⟩ :: rest) Q ds a h := by
  intro act w s n
  have hv := ev_raw s hx
  simp only [opsIn, Region.wanted, if_true]
  refine ⟨fun f _ => trivial, ?_⟩
  rw [Oper.semAt_eq _ _ _ (by intro c e; cases e)]
  have : (execOp act.eval ⟨none, .panic x, ty, pos, aft, none⟩).run P w = .halt (.panic (.iface t v)) w := by simp [execOp, hv, Instr.panic, goPanic, bind, Sem.bind, Sem.run]
  rw [this]
  exact ⟨ds, a, h, k, s, Ext.refl _ _⟩
theorem o_iface0 {x : Operand} {t : TypeId} {fs : List (Nat × Nat × Bool)} [hs : StructC P t fs] (hx : ev a x = some (.agg [])) (hN : d < N) (k : WPs P X N r ops rest Q ds ((d, .p (.raw (.iface t (.agg #[])))) :: a) h) :
    WPs P X N r ops (⟨some d, .makeInterface t x, ty, pos, aft, none⟩ :: rest) Q ds a h :=
  o_pure hN (by intro c e; cases e) (fun act w s => by
    have hr := s.ev hx
    generalize hxv : act.eval x = y at hr
    cases hr with
    | agg _ vals hsz _ =>
      have : vals = #[] := by apply Array.eq_empty_of_size_eq_zero; simpa using hsz
      subst this
      obtain ⟨fields, hu, _⟩ := fieldsK_get hs.out
      refine ⟨.iface t (.agg #[]), exec_v rfl ?_, .p (.raw _)⟩
      rw [hxv]
      unfold Instr.makeInterface
      rw [run_bind (run_underlying0 hu w)]
      rfl) k

theorem run_eql_sl {t te : TypeId} (hu : P.underlying t = some (.slice te)) (w : World) (d : Nat) (x : Option Addr) (n c : Nat) : (Op.equalIn (d + 1) t (.slice x n c) (.slice none 0 0)).run P w = .ok x.isNone w := by
  unfold Op.equalIn
  rw [run_bind (run_underlying0 hu w)]
  cases x <;> rfl
theorem exec_eqnil {t te t1 : TypeId} (hu : P.underlying t = some (.slice te)) {x : Operand} {act : Act} {w : World} {p : Option Addr} {n c : Nat} (hx : act.eval x = .slice p n c) :
    (execOp act.eval ⟨some d, .binOp .eql t x (.const (.slice none 0 0)) t1, ty, pos, aft, none⟩).run P w = .ok (.value (.bool p.isNone)) w := by
  have h1 : (Op.equal t (.slice p n c) (.slice none 0 0)).run P w = .ok p.isNone w := run_eql_sl hu w 9999 p n c
  refine exec_v (m := (do eqGuard .eql t x (.const (.slice none 0 0)) (act.eval x) (.slice none 0 0); binOp .eql t (act.eval x) (.slice none 0 0))) rfl ?_
  rw [hx]
  have h2 : (eqGuard .eql t x (.const (.slice none 0 0)) (.slice p n c) (.slice none 0 0)).run P w = .ok () w := rfl
  rw [run_bind h2]
  show ((do pure (.bool (← Op.equal t (.slice p n c) (.slice none 0 0)))) : Sem Value).run P w = _
  rw [run_bind h1]; rfl
/-- A slice, compared with nil. -/
theorem o_eqnil {t t1 : TypeId} {x : Operand} {es : List (List PV)} {f : Bool} {te k by_ : Nat} (hx : ev a x = some (V es f)) [hs : SliceC P t te k by_] (hN : d < N)
    (kk : ∀ b, (b = true → es = []) → WPs P X N r ops rest Q ds ((d, B b) :: a) h) : WPs P X N r ops (⟨some d, .binOp .eql t x (.const (.slice none 0 0)) t1, ty, pos, aft, none⟩ :: rest) Q ds a h :=
  o_run (fun v h' => ∃ b, v = B b ∧ (b = true → es = []) ∧ h' = h) hN (by intro c e; cases e) (fun act w s => by
    have hr := s.ev hx
    obtain ⟨hu, _⟩ := slK_get hs.out
    generalize hxv : act.eval x = y at hr
    cases hr with
    | p hp =>
      cases hp with
      | nil _ => exact ⟨.bool true, w, B true, h, ⟨true, rfl, fun _ => rfl, rfl⟩, exec_eqnil hu hxv, .p (.raw _), s.heap, Ext.refl _ _⟩
      | vs _ _ b off k' cap cells ty' fz hb hi hf hc hs' hk hr => exact ⟨.bool false, w, B false, h, ⟨false, rfl, fun e => (by cases e), rfl⟩, exec_eqnil hu hxv, .p (.raw _), s.heap, Ext.refl _ _⟩) fun v h' ⟨b, e1, e2, e3⟩ => by subst e1; subst e3; exact kk b e2
end
end Go.Proofs.YtnoicbajhlpndaaGreat.Hp
/- More rules: append of nothing. -/
namespace Go.Proofs.YtnoicbajhlpndaaGreat.Hp
open Go Go.RowKit Go.Shelf
set_option linter.unusedVariables false
set_option linter.unusedSimpArgs false
section
variable {P : Program} {X : Ctx} {N : Nat} {r : Option Nat} {Q : Post} {ds : List Deferred} {a : Tmps} {h : AHeap} {ops : Array Oper}
variable {rest : List Oper} {d : Tmp} {ty : TypeId} {pos : String} {aft : Array Edge}
theorem run_append_zero {t te : TypeId} {i : TypeInfo} (hu : P.underlying t = some (.slice te)) (hi : P.info? te = some i) (w : World) (p q : Option Addr) (n c c2 : Nat) (hc : n ≤ c) :
    (Builtin.append_ #[t, t] ty #[.slice p n c, .slice q 0 c2]).run P w = .ok (.slice p n c) w := by
  have hf : (Builtin.firstCells i.size 0 (.slice q 0 c2)).run P w = .ok #[] w := by
    cases q with
    | none => rfl
    | some b => exact run_firstCells_some w i.size 0 b 0 c2 [] (by simp) (by simp)
  cases p <;> simp [Builtin.append_, run_underlying hu, sizeOf, typeInfo, hi, Builtin.lenOf, hc, hf, storeCells]
/-- Nothing is appended. -/
theorem o_append0 {t : TypeId} {x y : Operand} {te k by_ : Nat} {es : List (List PV)} {f g : Bool} (hx : ev a x = some (V es f)) (hy : ev a y = some (V [] g)) [hs : SliceC P t te k by_] (hN : d < N)
    (kk : WPs P X N r ops rest Q ds ((d, V es f) :: a) h) :
    WPs P X N r ops (⟨some d, .call { callee := .builtin .append, args := #[x, y], argTypes := #[t, t] }, ty, pos, aft, none⟩ :: rest) Q ds a h :=
  o_pure hN (by intro c e; cases e) (fun act w s => by
    have h1 := s.ev hx; have h2 := s.ev hy
    obtain ⟨hu, ii, z0, hi, hik, _⟩ := slK_get hs.out
    refine ⟨act.eval x, exec_append ?_, h1⟩
    generalize act.eval x = u at h1
    generalize act.eval y = v at h2
    have hv : ∃ q c2, v = .slice q 0 c2 := by
      cases h2 with | p hp => cases hp with
        | nil _ => exact ⟨_, _, rfl⟩
        | vs _ _ b off k' cap cells ty' fz hb hi hf hc hs' hk hr => exact ⟨_, _, rfl⟩
    obtain ⟨q, c2, rfl⟩ := hv
    cases h1 with | p hp => cases hp with
      | nil _ => exact run_append_zero hu hi w _ _ _ _ _ (Nat.le_refl _)
      | vs _ _ b off k' cap cells ty' fz hb hi' hf hc hs' hk hr => exact run_append_zero hu hi w _ _ _ _ _ hc) kk
/-- An owned slice is owned no longer: plain data. -/
theorem o_freeze (i t : Nat) {l : List Oper} {b te k len cap c' : Nat} {es : List (List PV)} (ht : lk a t = some (.os b k 0 len cap)) (hh : h[i]? = some (b, .arr te k es c')) (hl : len = es.length) (hc : len ≤ cap)
    (kk : WPs P X N r ops l Q ds ((t, V es false) :: a) (h.eraseIdx i)) : WPs P X N r ops l Q ds a h := by
  have hlt : i < h.length := (List.getElem?_eq_some_iff.1 hh).1
  have hge : h[i] = (b, .arr te k es c') := (List.getElem?_eq_some_iff.1 hh).2
  have hsub : (h.eraseIdx i).Sublist h := List.eraseIdx_sublist h i
  have e1 : h = h.take i ++ (b, .arr te k es c') :: h.drop (i + 1) := by rw [← hge, List.getElem_cons_drop, List.take_append_drop]
  refine o_frz (h.eraseIdx i) (fun hn => (hsub.map Prod.fst).nodup hn) (fun b o ho => ⟨o, hsub.subset ho, .refl _⟩) (fun hn u v hv => ?_) kk
  by_cases hu : t = u
  · subst hu
    rw [lk_same] at hv; cases hv
    refine ⟨_, ht, ?_⟩
    have hnd : b ∉ dom (h.eraseIdx i) := by
      rw [List.eraseIdx_eq_take_drop_succ]
      rw [e1] at hn
      simp only [dom, List.map_append, List.map_cons] at hn ⊢
      have := (List.perm_middle.nodup_iff.1 hn)
      simpa using (List.nodup_cons.1 this).1
    subst hl
    have := FrzA.os (h := h) (h' := h.eraseIdx i) b k 0 es.length cap te es c' false (List.mem_of_getElem? hh) hnd (by simp) hc (by simp)
    rwa [List.drop_zero, List.take_of_length_le (Nat.le_refl _)] at this
  · rw [lk_other _ _ hu] at hv
    exact ⟨v, hv, .refl _⟩
/-- What guards has not been done itself: not done. -/
theorem o_guardx {d : Tmp} {op : Op} {ty : TypeId} {pos : String} {aft : Array Edge} {j : Nat} {pol : Bool} {t : Tmp}
    (hj : (ops[j]?).bind (·.dst) = some t) (ht : lk a t = some (.p (.raw undef))) (hN : d < N) (kn : WPs P X N r ops rest Q ds ((d, .p (.raw undef)) :: a) h) : WPs P X N r ops (⟨some d, op, ty, pos, aft, some (j, pol)⟩ :: rest) Q ds a h := by
  intro act w s n
  obtain ⟨x, hx, hr⟩ := s.tm t _ ht
  have hb : x = undef := by cases hr with | p hp => cases hp; rfl
  subst hb
  have hy : yielded ops act.tmps j = none := by simp only [yielded, hj, Option.bind_some, hx]; rfl
  simp only [opsIn, Region.wanted, hy]
  rw [if_neg (by simp)]
  exact ⟨fun f _ => trivial, kn _ _ (s.put (Ext.refl _ _) s.heap hN (.p (.raw _))) n⟩
end
end Go.Proofs.YtnoicbajhlpndaaGreat.Hp
/- More rules: the heap told anew; calls that own a front or an end of the heap and may end anyhow. -/
namespace Go.Proofs.YtnoicbajhlpndaaGreat.Hp
open Go Go.RowKit Go.Shelf
set_option linter.unusedVariables false
set_option linter.unusedSimpArgs false
section
variable {P : Program} {X : Ctx} {N : Nat} {r : Option Nat} {Q : Post} {ds : List Deferred} {a : Tmps} {h : AHeap} {ops : Array Oper}
variable {rest : List Oper} {d : Tmp} {ty : TypeId} {pos : String} {aft : Array Edge}

theorem h_heap {c : Code} {h' : AHeap} (e : h = h') (k : WP P X N r c Q ds a h') : WP P X N r c Q ds a h := e ▸ k

/-- A call that owns the end of the heap, and may end anyhow. -/
theorem o_callRE {g : Operand} {xs : Array Operand} {ats : Array TypeId} {f : FuncId} {caps vs : List AV} {h2 h1 : AHeap} {R : AEnd → AHeap → Prop} (hh : h = h2 ++ h1)
    (hg : ev a g = some (.fn f caps)) (hx : evs a xs.toList = some vs) (he : Enters P f) (hN : d < N) (hs : FnE P f (vs ++ caps) h1 R) (k : ∀ v h', R (.ret v) h' → WPs P X N r ops rest Q ds ((d, v) :: a) (h2 ++ h'))
    (kp : ∀ c h', R (.pan c) h' → Q (.panic c) ds a (h' ++ h2)) :
    WPs P X N r ops (⟨some d, .call { callee := .value g, args := xs, argTypes := ats }, ty, pos, aft, none⟩ :: rest) Q ds a h :=
  o_callE hg hx he hN ⟨by rw [hh]; exact List.perm_append_comm⟩ hs (fun v h' hr => o_perm List.perm_append_comm (k v h' hr)) kp
/-- A call that owns the front of the heap, and may end anyhow. -/
theorem o_callFE {g : Operand} {xs : Array Operand} {ats : Array TypeId} {f : FuncId} {caps vs : List AV} {h1 h2 : AHeap} {R : AEnd → AHeap → Prop} (hh : h = h1 ++ h2)
    (hg : ev a g = some (.fn f caps)) (hx : evs a xs.toList = some vs) (he : Enters P f) (hN : d < N) (hs : FnE P f (vs ++ caps) h1 R) (k : ∀ v h', R (.ret v) h' → WPs P X N r ops rest Q ds ((d, v) :: a) (h' ++ h2))
    (kp : ∀ c h', R (.pan c) h' → Q (.panic c) ds a (h' ++ h2)) :
    WPs P X N r ops (⟨some d, .call { callee := .value g, args := xs, argTypes := ats }, ty, pos, aft, none⟩ :: rest) Q ds a h :=
  o_callE hg hx he hN ⟨by rw [hh]⟩ hs k kp
theorem resT {t : Tmp} {v : AV} (ht : lk a t = some v) : ResV P a h (.tmp t) v := .tmp ht
theorem resC {t : Tmp} {ty bty : TypeId} {b : Nat} {cs : List AV} {v : AV} {g : Bool} {n : Nat} (i : Nat) (ht : lk a t = some (.ptr b 0)) (hh : h[i]? = some (b, .box bty cs)) [hk : TyC P ty g n] (hv : ldA g n cs = some v) : ResV P a h (.cell t ty) v :=
  .cell i ht hh hk.out hv
/-- The results, some of what is owned kept. -/
theorem retG {R : AEnd → AHeap → Prop} {rs : List ResultVar} {vs : List AV} (h' : AHeap) (hv : ResVs P a h rs vs) (hsub : h'.Sublist h) (k : R (.ret (single vs)) h') : RetP P rs R [] a h :=
  ⟨[], vs, single vs, h', rfl, List.nodup_nil, (by intro D hD; cases hD), hv, .refl _, fun hn => (hsub.map Prod.fst).nodup hn, (fun b o ho => ⟨o, hsub.subset ho, .refl _⟩), k⟩
/-- The results, all that is owned given up. -/
theorem retF {R : AEnd → AHeap → Prop} {rs : List ResultVar} {vs : List AV} {v : AV} (hv : ResVs P a h rs vs) (hf : FrzA h [] (single vs) v) (k : R (.ret v) []) : RetP P rs R [] a h :=
  ⟨[], vs, v, [], rfl, List.nodup_nil, (by intro D hD; cases hD), hv, hf, (fun _ => List.nodup_nil), (by intro b o h; cases h), k⟩
end
end Go.Proofs.YtnoicbajhlpndaaGreat.Hp
/- More rules: maps of whole numbers; functions and interfaces held against nil; type assertions; deferred calls. -/
namespace Go.Proofs.YtnoicbajhlpndaaGreat.Hp
open Go Go.RowKit Go.Shelf Go.MapKept
set_option linter.unusedVariables false
set_option linter.unusedSimpArgs false
class MapC (P : Program) (t : TypeId) (kt et : outParam TypeId) : Prop where
  hm : P.underlying t = some (.map kt et)
  hk : P.underlying kt = some (.int .i64)
section
variable {P : Program} {X : Ctx} {N : Nat} {r : Option Nat} {Q : Post} {ds : List Deferred} {a : Tmps} {h : AHeap} {ops : Array Oper}
variable {rest : List Oper} {d : Tmp} {ty : TypeId} {pos : String} {aft : Array Edge}

abbrev M (b : Nat) : AV := .p (.raw (.map (some b)))
theorem o_makeMap {t : TypeId} (hN : d < N) (k : ∀ b, WPs P X N r ops rest Q ds ((d, M b) :: a) ((b, .obj (.map #[] 0)) :: h)) :
    WPs P X N r ops (⟨some d, .makeMap t none, ty, pos, aft, none⟩ :: rest) Q ds a h :=
  o_run (fun v h' => ∃ b, v = M b ∧ h' = (b, .obj (.map #[] 0)) :: h) hN (by intro c e; cases e) (fun act w s => by
    obtain ⟨H, E⟩ := s.heap.new (new_alloc w (.map #[] 0)) (ob := .obj (.map #[] 0)) (.obj _)
    exact ⟨.map (some w.heap.size), _, M w.heap.size, _, ⟨_, rfl, rfl⟩, rfl, .p (.raw _), H, E⟩) fun v h' ⟨b, e1, e2⟩ => by subst e1; subst e2; exact k b

/-- What is known of a datum says which value it is. -/
def Only1 (v : AV) (y : Value) : Prop := ∀ (hp : Array Obj) (imm : Nat → Prop) (z : Value), RelA hp imm v z → z = y
theorem only_fn (f : FuncId) : Only1 (.fn f []) (.func (.func f) #[] #[]) := by
  intro hp imm z h
  cases h with
  | fn _ _ vals hs hr =>
    have : vals = #[] := by apply Array.eq_empty_of_size_eq_zero; simpa using hs
    rw [this]
theorem St.obj {act : Act} {w : World} (s : St X N ds a h act w) {i b : Nat} {o : Obj} (hh : h[i]? = some (b, .obj o)) : w.heap[b]? = some o := by
  obtain ⟨ob, h1, h2⟩ := s.heap.rel b _ (List.mem_of_getElem? hh)
  cases h2; exact h1
theorem ev_M {act : Act} {w : World} (s : St X N ds a h act w) {x : Operand} {b : Nat} (hx : ev a x = some (M b)) : act.eval x = .map (some b) := ev_raw s hx

theorem o_insert {t kt et : TypeId} [hM : MapC P t kt et] {m x y : Operand} {b clock : Nat} {es : Array MapEntry} {n : Int} {v : AV} {val : Value} (i : Nat) (hx : ev a m = some (M b)) (hh : h[i]? = some (b, .obj (.map es clock)))
    (hk : ev a x = some (I n)) (hv : ev a y = some v) (ho : Only1 v val) (hf : Instr.findNow (.int .i64) (.int .i64 n) es.toList 0 = some none)
    (k : WPs P X N r ops rest Q ds a (h.set i (b, .obj (.map (es.push { key := .int .i64 n, val := val, born := clock }) (clock + 1))))) :
    WPs P X N r ops (⟨none, .insert t m x y, ty, pos, aft, none⟩ :: rest) Q ds a h :=
  o_run0 (by intro c e; cases e) (fun act w s => by
    have hb := s.obj hh
    have e1 := ev_M s hx
    have e2 := ev_raw s hk
    have e3 := ho _ _ _ (s.ev hv)
    refine ⟨{ w with heap := w.heap.setIfInBounds b (.map (es.push { key := .int .i64 n, val := val, born := clock }) (clock + 1)) }, ?_, ?_⟩
    · simp [execOp, e1, e2, e3, Instr.mapUpdate, run_underlying hM.hm, MapKept.run_getObj_map hb, MapKept.run_checkKey (k := .int .i64 n) hM.hk (by simp [IsKey]), MapKept.run_findKey hM.hk hf, MapKept.run_setObj_map _ hb, Result.andThen]
    · refine s.heap.chg hh ⟨rfl, rfl, rfl, by simp, fun c hc => (MapKept.heap_set hb).2 c hc⟩ ⟨_, (MapKept.heap_set hb).1, .obj _⟩) k

theorem o_lookup {t kt et : TypeId} [hM : MapC P t kt et] {m x : Operand} {b clock j : Nat} {es : Array MapEntry} {n : Int} {v : AV} {val : Value} (i : Nat) (hx : ev a m = some (M b)) (hh : h[i]? = some (b, .obj (.map es clock)))
    (hk : ev a x = some (I n)) (hf : Instr.findNow (.int .i64) (.int .i64 n) es.toList 0 = some (some (j, val))) (hv : ∀ (hp : Array Obj) (imm : Nat → Prop), RelA hp imm v val) (hN : d < N)
    (k : WPs P X N r ops rest Q ds ((d, v) :: a) h) : WPs P X N r ops (⟨some d, .lookup t m x false, ty, pos, aft, none⟩ :: rest) Q ds a h :=
  o_pure hN (by intro c e; cases e) (fun act w s => by
    have hb := s.obj hh
    have e1 := ev_M s hx
    have e2 := ev_raw s hk
    refine ⟨val, ?_, hv _ _⟩
    simp [execOp, e1, e2, Instr.lookup, run_underlying hM.hm, MapKept.run_getObj_map hb, MapKept.run_checkKey (k := .int .i64 n) hM.hk (by simp [IsKey]), MapKept.run_findKey hM.hk hf, Result.andThen]) k
theorem o_lookup0 {t kt et : TypeId} [hM : MapC P t kt et] {m x : Operand} {b clock : Nat} {es : Array MapEntry} {n : Int} {z : Value} [hz : ZeroC P et [.raw z]] (i : Nat) (hx : ev a m = some (M b)) (hh : h[i]? = some (b, .obj (.map es clock)))
    (hk : ev a x = some (I n)) (hf : Instr.findNow (.int .i64) (.int .i64 n) es.toList 0 = some none) (hz1 : ∀ w, (zeroValue et).run P w = .ok z w) (hN : d < N)
    (k : WPs P X N r ops rest Q ds ((d, .p (.raw z)) :: a) h) : WPs P X N r ops (⟨some d, .lookup t m x false, ty, pos, aft, none⟩ :: rest) Q ds a h :=
  o_pure hN (by intro c e; cases e) (fun act w s => by
    have hb := s.obj hh
    have e1 := ev_M s hx
    have e2 := ev_raw s hk
    refine ⟨z, ?_, .p (.raw _)⟩
    simp [execOp, e1, e2, Instr.lookup, run_underlying hM.hm, MapKept.run_getObj_map hb, MapKept.run_checkKey (k := .int .i64 n) hM.hk (by simp [IsKey]), MapKept.run_findKey hM.hk hf, hz1, Result.andThen]) k
theorem rel_fn0 (f : FuncId) (hp : Array Obj) (imm : Nat → Prop) : RelA hp imm (.fn f []) (.func (.func f) #[] #[]) := .fn f [] #[] rfl (by simp)


/-! ### held against nil -/
def isFuncT (P : Program) (t : TypeId) : Bool := match P.underlying t with
  | some (.func _ _ _) => true
  | _ => false
def isIfaceT (P : Program) (t : TypeId) : Bool := match P.underlying t with
  | some (.interface _) => true
  | _ => false
class FuncC (P : Program) (t : TypeId) : Prop where
  out : isFuncT P t = true
class IfaceC (P : Program) (t : TypeId) : Prop where
  out : isIfaceT P t = true
theorem FuncC.get {t : TypeId} (hc : FuncC P t) : ∃ x y z, P.underlying t = some (.func x y z) := by
  have := hc.out
  unfold isFuncT at this
  split at this
  · exact ⟨_, _, _, ‹_›⟩
  · cases this
theorem IfaceC.get {t : TypeId} (hc : IfaceC P t) : ∃ x, P.underlying t = some (.interface x) := by
  have := hc.out
  unfold isIfaceT at this
  split at this
  · exact ⟨_, ‹_›⟩
  · cases this
theorem exec_neq {t t1 : TypeId} {x : Operand} {c : Value} {act : Act} {w : World} {v : Value} {b : Bool} (hx : act.eval x = v) (h2 : (eqGuard .neq t x (.const c) v c).run P w = .ok () w) (h1 : (Op.equal t v c).run P w = .ok (!b) w)
    (hb : binOp .neq t v c = (do pure (.bool (!(← Op.equal t v c))))) : (execOp act.eval ⟨some d, .binOp .neq t x (.const c) t1, ty, pos, aft, none⟩).run P w = .ok (.value (.bool b)) w := by
  refine exec_v (m := (do eqGuard .neq t x (.const c) (act.eval x) c; binOp .neq t (act.eval x) c)) rfl ?_
  rw [hx, run_bind h2, hb, run_bind h1, Bool.not_not]; rfl
theorem o_neqf {t t1 : TypeId} [hF : FuncC P t] {x : Operand} {f : FuncId} {cs : List AV} (hx : ev a x = some (.fn f cs)) (hN : d < N) (k : WPs P X N r ops rest Q ds ((d, B true) :: a) h) :
    WPs P X N r ops (⟨some d, .binOp .neq t x (.const .nilFunc) t1, ty, pos, aft, none⟩ :: rest) Q ds a h :=
  o_pure hN (by intro c e; cases e) (fun act w s => by
    have hr := s.ev hx
    obtain ⟨_, _, _, hu⟩ := hF.get
    generalize hxv : act.eval x = y at hr
    cases hr with
    | fn _ _ vals hs hr =>
      refine ⟨.bool true, exec_neq hxv rfl ?_ rfl, .p (.raw _)⟩
      show (Op.equalIn (9999 + 1) t _ _).run P w = _
      unfold Op.equalIn
      rw [run_bind (run_underlying0 hu w)]; rfl) k
theorem o_neqf0 {t t1 : TypeId} [hF : FuncC P t] {x : Operand} (hx : ev a x = some (.p (.raw .nilFunc))) (hN : d < N) (k : WPs P X N r ops rest Q ds ((d, B false) :: a) h) :
    WPs P X N r ops (⟨some d, .binOp .neq t x (.const .nilFunc) t1, ty, pos, aft, none⟩ :: rest) Q ds a h :=
  o_pure hN (by intro c e; cases e) (fun act w s => by
    obtain ⟨_, _, _, hu⟩ := hF.get
    refine ⟨.bool false, exec_neq (ev_raw s hx) rfl ?_ rfl, .p (.raw _)⟩
    show (Op.equalIn (9999 + 1) t _ _).run P w = _
    unfold Op.equalIn
    rw [run_bind (run_underlying0 hu w)]; rfl) k
theorem o_neqi0 {t t1 : TypeId} [hI : IfaceC P t] {x : Operand} (hx : ev a x = some (.p (.raw .nilIface))) (hN : d < N) (k : WPs P X N r ops rest Q ds ((d, B false) :: a) h) :
    WPs P X N r ops (⟨some d, .binOp .neq t x (.const .nilIface) t1, ty, pos, aft, none⟩ :: rest) Q ds a h :=
  o_pure hN (by intro c e; cases e) (fun act w s => by
    obtain ⟨_, hu⟩ := hI.get
    refine ⟨.bool false, exec_neq (ev_raw s hx) ?_ ?_ rfl, .p (.raw _)⟩
    · cases x <;> rfl
    · show (Op.equalIn (9999 + 1) t _ _).run P w = _
      unfold Op.equalIn
      rw [run_bind (run_underlying0 hu w)]; rfl) k

/-! ### type assertions, of a type of structs without fields -/
class ZeroV (P : Program) (t : TypeId) (z : outParam Value) : Prop where
  out : (P.info? t).bind (·.zero) = some z
theorem ZeroV.run {t : TypeId} {z : Value} (hz : ZeroV P t z) (w : World) : (zeroValue t).run P w = .ok z w := by
  have := hz.out
  cases hi : P.info? t with
  | none => simp [hi] at this
  | some i =>
    simp [hi] at this
    simp [zeroValue, typeInfo, program, Sem.run, bind, Sem.bind, pure, hi, this]
theorem rel_agg0 (hp : Array Obj) (imm : Nat → Prop) : RelA hp imm (.agg []) (.agg #[]) := .agg [] #[] rfl (by simp)
theorem rel_tup2 {hp : Array Obj} {imm : Nat → Prop} {u v : AV} {x y : Value} (h1 : RelA hp imm u x) (h2 : RelA hp imm v y) : RelA hp imm (.tup [u, v]) (.tuple #[x, y]) :=
  .tup _ _ rfl fun i c z hc hz => by
    match i with
    | 0 => simp at hc hz; subst hc; subst hz; exact h1
    | 1 => simp at hc hz; subst hc; subst hz; exact h2
    | i + 2 => simp at hc
theorem o_asserty {x : Operand} {t xt : TypeId} {fs : List (Nat × Nat × Bool)} [hs : StructC P t fs] (hx : ev a x = some (.p (.raw (.iface t (.agg #[]))))) (hN : d < N) (k : WPs P X N r ops rest Q ds ((d, .tup [.agg [], B true]) :: a) h) :
    WPs P X N r ops (⟨some d, .typeAssert x xt t true, ty, pos, aft, none⟩ :: rest) Q ds a h :=
  o_pure hN (by intro c e; cases e) (fun act w s => by
    obtain ⟨fields, hu, _⟩ := fieldsK_get hs.out
    refine ⟨.tuple #[.agg #[], .bool true], exec_v rfl ?_, rel_tup2 (rel_agg0 _ _) (.p (.raw _))⟩
    rw [ev_raw s hx]
    unfold Instr.typeAssert
    rw [run_bind (run_underlying0 hu w)]
    simp [run_pure]) k
theorem o_assertn {x : Operand} {t xt : TypeId} {fs : List (Nat × Nat × Bool)} [hs : StructC P t fs] [hz : ZeroV P t (.agg #[])] (hx : ev a x = some (.p (.raw .nilIface))) (hN : d < N) (k : WPs P X N r ops rest Q ds ((d, .tup [.agg [], B false]) :: a) h) :
    WPs P X N r ops (⟨some d, .typeAssert x xt t true, ty, pos, aft, none⟩ :: rest) Q ds a h :=
  o_pure hN (by intro c e; cases e) (fun act w s => by
    obtain ⟨fields, hu, _⟩ := fieldsK_get hs.out
    refine ⟨.tuple #[.agg #[], .bool false], exec_v rfl ?_, rel_tup2 (rel_agg0 _ _) (.p (.raw _))⟩
    rw [ev_raw s hx]
    unfold Instr.typeAssert
    rw [run_bind (run_underlying0 hu w)]
    show ((do pure (.tuple #[← zeroValue t, .bool false])) : Sem Value).run P w = _
    rw [run_bind (hz.run w)]; rfl) k

/-! ### deferred calls -/
abbrev pv (b o : Nat) : Value := .pointer (some ⟨b, o, none⟩)
theorem rel_ptr {hp : Array Obj} {imm : Nat → Prop} {b o : Nat} {z : Value} (h : RelA hp imm (.ptr b o) z) : z = pv b o := by cases h; rfl
/-- A deferred call of a function with two captured pointers. -/
theorem o_defer2 {g : Operand} {ats : Array TypeId} {f b1 o1 b2 o2 : Nat} (hg : ev a g = some (.fn f [.ptr b1 o1, .ptr b2 o2]))
    (k : WPs P X N none ops rest Q ({ target := .fn (.func f) #[pv b1 o1, pv b2 o2], args := #[] } :: ds) a h) :
    WPs P X N none ops (⟨none, .defer { callee := .value g, args := #[], argTypes := ats }, ty, pos, aft, none⟩ :: rest) Q ds a h := by
  intro act w s n
  have hr := s.ev hg
  have hval : act.eval g = .func (.func f) #[] #[pv b1 o1, pv b2 o2] := by
    generalize act.eval g = y at hr
    cases hr with
    | fn _ _ vals hs hr =>
      have hs2 : vals.size = 2 := hs
      have h0 := hr 0 _ (vals[0]'(by omega)) rfl (by simp [hs])
      have h1 := hr 1 _ (vals[1]'(by omega)) rfl (by simp [hs])
      have e0 := rel_ptr h0; have e1 := rel_ptr h1
      congr 1
      apply Array.ext
      · simpa using hs
      · intro i hi hi'
        match i with
        | 0 => exact e0
        | 1 => exact e1
        | i + 2 => simp at hi'; omega
  simp only [opsIn, Region.wanted, if_true]
  refine ⟨fun f _ => trivial, ?_⟩
  have hrun : (Oper.semAt (Fr none).round act.eval ⟨none, .defer { callee := .value g, args := #[], argTypes := ats }, ty, pos, aft, none⟩).run P w = .ok (.defer { target := .fn (.func f) #[pv b1 o1, pv b2 o2], args := #[] }) w := by
    have e : (Fr none).round = none := rfl
    rw [e, Oper.semAt_none]
    simp [execOp, resolve, hval, Deferred.ofValue, Sem.run_pure, bind, Sem.bind, Sem.run]
    rfl
  rw [hrun, Oper.uponIn_defer]
  exact k _ w ⟨by simpa [Act.put] using s.size, by simp [Act.put, s.defers], fun t v hv => by simpa [Act.put] using s.tm t v hv, s.heap⟩ n

/-- How a function with deferred calls is left. -/
def AfterP (P : Program) (X : Ctx) (N : Nat) (fn : Func) (R : AEnd → AHeap → Prop) (u : FrameMode) (ds : List Deferred) (a : Tmps) (h : AHeap) : Prop :=
  ∀ (h0 : AHeap) (w0 : World) (act : Act) (w : World), St X N ds a h act w → Ext h0 w0 h w →
    LeavesIn Fence.wide 0 P fn act.tmps (fun e w' => ∃ E h', R E h' ∧ RelE w'.heap (Imm X h' w') E e ∧ Holds X h' w' ∧ Ext h0 w0 h' w') act.defers u w
def bodyD (P : Program) (X : Ctx) (N : Nat) (fn : Func) (R : AEnd → AHeap → Prop) : Post
  | .normal, ds, a, h => AfterP P X N fn R .returning ds a h
  | .ret, ds, a, h => AfterP P X N fn R .returning ds a h
  | .panic c, ds, a, h => AfterP P X N fn R (.panicking c) ds a h
  | _, _, _, _ => False
theorem fnX_introD {f : FuncId} {fn : Func} {c : Code} {args : List AV} {R : AEnd → AHeap → Prop} (hf : P.funcs[f]? = some fn) (hb : fn.body = some c) (hN : fn.ntmps = N) (hl : Nat.ble args.length N = true)
    (k : WP P X N none c (bodyD P X N fn R) [] (argT 0 args) h) : FnX P X f args h R := by
  intro w vals H hv
  refine callsIn_wide (n := 0) |>.1 ?_
  refine callsIn_of_wp_defers hf hb trivial ?_
  have hl' := Nat.le_of_ble_eq_true hl
  have s0 : St X N [] (argT 0 args) h { tmps := vals ++ Array.replicate (fn.ntmps - vals.size) undef, defers := [] } w := by
    refine ⟨by simp [hN, hv.1]; omega, rfl, fun t v ht => ?_, H⟩
    obtain ⟨_, h2⟩ := argT_get ht
    simp only [Nat.sub_zero] at h2
    have hlt : t < vals.size := by rw [hv.1]; exact (List.getElem?_eq_some_iff.1 h2).1
    refine ⟨vals[t], by rw [Array.getElem?_append_left hlt]; simp [hlt], hv.2 t v _ h2 (by simp [hlt])⟩
  refine wpIn_mono (k _ w s0 0) ?_
  rintro e act' w' ⟨ds', a', h', q, s', x'⟩
  cases e with
  | normal => exact q h w act' w' s' x'
  | ret => exact q h w act' w' s' x'
  | panic ch => exact q h w act' w' s' x'
  | exit id => exact q.elim
  | goto l => exact q.elim
  | outgrown => exact q.elim
/-- What a deferred call does, whether its frame returns or panics (u), after which the frame returns. -/
def DefE (P : Program) (g : FuncId) (caps : List AV) (u : FrameMode) (h : AHeap) (Rg : AHeap → Prop) : Prop :=
  ∀ (X : Ctx) (w : World) (vals : Array Value), Holds X h w → RelAs w.heap (Imm X h w) caps vals →
    CallsDIn Fence.wide 0 P g vals u w fun e u' w' => (∃ v, e = .returned v) ∧ settle u' = .returning ∧ ∃ h', Rg h' ∧ Holds X h' w' ∧ Ext h w h' w'
theorem after_one {fn : Func} {R : AEnd → AHeap → Prop} {g b1 o1 b2 o2 : Nat} {u : FrameMode} {h1 h2 : AHeap} {Rg : AHeap → Prop} (he : Enters P g) (hu : u ≠ .run) (hsp : h.Perm (h1 ++ h2)) (hD : DefE P g [.ptr b1 o1, .ptr b2 o2] u h1 Rg)
    (k : ∀ h1', Rg h1' → ∃ vs h', ResVs P a (h1' ++ h2) fn.results.toList vs ∧ h'.Sublist (h1' ++ h2) ∧ R (.ret (single vs)) h') :
    AfterP P X N fn R u [{ target := .fn (.func g) #[pv b1 o1, pv b2 o2], args := #[] }] a h := by
  intro h0 w0 act w s0 e0
  have s := s0.perm hsp
  have eo := e0.trans (Ext.perm w hsp)
  rw [s.defers]
  refine leavesIn_cons (f := g) (args := #[pv b1 o1, pv b2 o2]) hu (fun h => by simp [Fence.wide] at h) ?_ (fun _ _ => trivial) ?_
  · simp only [invoke, Array.empty_append]
    exact he _ _
  · refine CallsDIn.mono (hD (Aside X h2) w _ s.heap.part ⟨rfl, fun i c v hc hv => ?_⟩) ?_
    · match i with
      | 0 => simp at hc hv; subst hc; subst hv; exact .ptr _ _
      | 1 => simp at hc hv; subst hc; subst hv; exact .ptr _ _
      | i + 2 => simp at hc
    · rintro e u' w' ⟨⟨v, rfl⟩, hs, h', hR, hH, hx⟩
      simp only [hs]
      have HJ := s.heap.join hH hx
      have EJ : Ext (h1 ++ h2) w (h' ++ h2) w' := hx.join
      have s' := s.keep EJ HJ
      obtain ⟨vs, h3, hres, hsub, hRR⟩ := k h' hR
      obtain ⟨x, g1, g2⟩ := results_run s' hres
      have e3 : Ext (h' ++ h2) w' h3 w' := Ext.frz w' (dom_sub hsub)
      exact ⟨x, g1, .ret (single vs), h3, hRR, .ret (g2.ext e3), HJ.sub hsub, eo.trans (EJ.trans e3)⟩
/-- The results, some of what is owned kept, in another order. -/
theorem retGP {R : AEnd → AHeap → Prop} {rs : List ResultVar} {vs : List AV} (h' h1 : AHeap) (hv : ResVs P a h rs vs) (hp : h1.Perm h') (hsub : h1.Sublist h) (k : R (.ret (single vs)) h') : RetP P rs R [] a h :=
  ⟨[], vs, single vs, h', rfl, List.nodup_nil, (by intro D hD; cases hD), hv, .refl _, fun hn => (hp.map Prod.fst).nodup_iff.1 ((hsub.map Prod.fst).nodup hn), (fun b o ho => ⟨o, hsub.subset (hp.mem_iff.2 ho), .refl _⟩), k⟩
theorem h_frzN {c : Code} {a' : Tmps} (h' : AHeap) (hn : (dom h).Nodup → (dom h').Nodup) (hm : (dom h).Nodup → ∀ b o', (b, o') ∈ h' → ∃ o, (b, o) ∈ h ∧ FrzO h h' o o')
    (ha : (dom h).Nodup → ∀ t v', lk a' t = some v' → ∃ v, lk a t = some v ∧ FrzA h h' v v') (k : WP P X N r c Q ds a' h') : WP P X N r c Q ds a h :=
  fun act w s n => wpIn_mono (k act w (s.frz (hn s.heap.nodup) (hm s.heap.nodup) (ha s.heap.nodup)) n) fun e a2 w2 p => post_ext (Ext.frz w (dom_of_frz (hm s.heap.nodup))) p
theorem perm_mid {p u v : AHeap} : (p ++ (u ++ v)).Perm (u ++ (p ++ v)) := by
  rw [← List.append_assoc, ← List.append_assoc]; exact List.perm_append_comm.append_right _
/-- A call that may write nothing of what is owned, and may end anyhow. -/
theorem o_callNE {g : Operand} {xs : Array Operand} {ats : Array TypeId} {f : FuncId} {caps vs : List AV} {R : AEnd → AHeap → Prop}
    (hg : ev a g = some (.fn f caps)) (hx : evs a xs.toList = some vs) (he : Enters P f) (hN : d < N) (hs : FnE P f (vs ++ caps) [] R) (k : ∀ v h', R (.ret v) h' → WPs P X N r ops rest Q ds ((d, v) :: a) (h' ++ h)) (kp : ∀ c h', R (.pan c) h' → Q (.panic c) ds a (h' ++ h)) :
    WPs P X N r ops (⟨some d, .call { callee := .value g, args := xs, argTypes := ats }, ty, pos, aft, none⟩ :: rest) Q ds a h :=
  o_callE hg hx he hN (Split.none h) hs k kp
def bodyR (Rg : AHeap → Prop) : Post
  | .normal, ds, a, h => ds = [] ∧ ∃ h', h'.Sublist h ∧ Rg h'
  | .ret, ds, a, h => ds = [] ∧ ∃ h', h'.Sublist h ∧ Rg h'
  | _, _, _, _ => False
/-- What a deferred call does that asks first what its frame panics with. -/
theorem defE_rec {g : FuncId} {fn : Func} {c : Code} {id d1 d2 : Nat} {ats : Array TypeId} {ty1 ty2 : TypeId} {p1 p2 : String} {a1 a2 : Array Edge} {caps : List AV} {u u' : FrameMode} {v : Value} {h1 : AHeap} {Rg : AHeap → Prop}
    (hf : P.funcs[g]? = some fn)
    (hb : fn.body = some (.seq (.region id #[⟨some d1, .call { callee := .builtin .recover, args := #[], argTypes := ats }, ty1, p1, a1, none⟩, ⟨some d2, .assign (.tmp d1), ty2, p2, a2, none⟩] false) c))
    (hN : fn.ntmps = N) (hl : Nat.ble caps.length N = true) (hres : fn.results = #[]) (hd1 : d1 < N) (hd2 : d2 < N)
    (hr : (u = .returning ∧ v = .nilIface ∧ u' = .returning) ∨ (u = .panicking [{ v := v, recovered := false }] ∧ u' = .panicking [{ v := v, recovered := true }]))
    (k : ∀ X, WP P X N none c (bodyR Rg) [] ((d2, .p (.raw v)) :: (d1, .p (.raw v)) :: argT 0 caps) h1)
    : DefE P g caps u h1 Rg := by
  intro X w vals H hv
  have hl' := Nat.le_of_ble_eq_true hl
  have s0 : St X N [] (argT 0 caps) h1 { tmps := vals ++ Array.replicate (fn.ntmps - vals.size) undef, defers := [] } w := by
    refine ⟨by simp [hN, hv.1]; omega, rfl, fun t v ht => ?_, H⟩
    obtain ⟨_, h2⟩ := argT_get ht
    simp only [Nat.sub_zero] at h2
    have hlt : t < vals.size := by rw [hv.1]; exact (List.getElem?_eq_some_iff.1 h2).1
    refine ⟨vals[t], by rw [Array.getElem?_append_left hlt]; simp [hlt], hv.2 t v _ h2 (by simp [hlt])⟩
  revert s0
  generalize hact : ({ tmps := vals ++ Array.replicate (fn.ntmps - vals.size) undef, defers := [] } : Act) = act
  intro s0
  refine callsDIn_of_wpSIn hf hb trivial fun c₀ cs hu => ?_
  rw [hact]
  refine wpSIn_seq (wpSIn_region ?_)
  have s1 : St X N [] ((d1, .p (.raw v)) :: argT 0 caps) h1 (act.put (some d1) v) w := s0.put (Ext.refl _ _) s0.heap hd1 (.p (.raw v))
  have s2 : St X N [] ((d2, .p (.raw v)) :: (d1, .p (.raw v)) :: argT 0 caps) h1 ((act.put (some d1) v).put (some d2) v) w := s1.put (Ext.refl _ _) s1.heap hd2 (.p (.raw v))
  have hev : (act.put (some d1) v).eval (.tmp d1) = v := ev_raw s1 (lk_same _ _ _)
  have body : ∀ cs', cs' = { c₀ with mode := u' } :: cs → c.wpSIn Fence.wide 0 P (bodyPostS P fn c₀ cs fun e u' w' => (∃ v, e = .returned v) ∧ settle u' = .returning ∧ ∃ h', Rg h' ∧ Holds X h' w' ∧ Ext h1 w h' w') ((act.put (some d1) v).put (some d2) v) cs' w := by
    intro cs' hcs
    refine wpSIn_of_wpIn rfl (wpIn_mono (k X _ w s2 0) ?_)
    have hset : settle u' = .returning := by rcases hr with ⟨_, _, rfl⟩ | ⟨_, rfl⟩ <;> rfl
    have fin : ∀ ds' a' h' act' w', (ds' = [] ∧ ∃ h2, h2.Sublist h' ∧ Rg h2) → St X N ds' a' h' act' w' → Ext h1 w h' w' → act'.defers = [] ∧ ∃ u'', cs' = { c₀ with mode := u'' } :: cs ∧ ∃ v, (results fn act'.tmps).run P w' = .ok v w' ∧ (∃ v', Ending.returned v = .returned v') ∧ settle u'' = .returning ∧ ∃ h', Rg h' ∧ Holds X h' w' ∧ Ext h1 w h' w' := by
      rintro ds' a' h' act' w' ⟨rfl, h2, hsub, hR⟩ s' e'
      obtain ⟨x, g1, g2⟩ := results_run (P := P) s' (fn := fn) (vs := []) (by rw [hres]; exact .nil)
      exact ⟨s'.defers, u', hcs, x, g1, ⟨_, rfl⟩, hset, h2, hR, s'.heap.sub hsub, e'.trans (Ext.frz w' (dom_sub hsub))⟩
    rintro e act' w' ⟨ds', a', h', q, s', x'⟩
    cases e with
    | normal => exact fin ds' a' h' act' w' q s' x'
    | ret => exact fin ds' a' h' act' w' q s' x'
    | panic ch => exact q.elim
    | exit id => exact q.elim
    | goto l => exact q.elim
    | outgrown => exact q.elim
  have e0 : List.range 2 = [0, 1] := rfl
  have o2 : ∀ cs', cs' = { c₀ with mode := u' } :: cs → wpOpsSIn Fence.wide 0 P #[⟨some d1, .call { callee := .builtin .recover, args := #[], argTypes := ats }, ty1, p1, a1, none⟩, ⟨some d2, .assign (.tmp d1), ty2, p2, a2, none⟩]
      (Exit.thenS (c.wpSIn Fence.wide 0 P (bodyPostS P fn c₀ cs fun e u' w' => (∃ v, e = .returned v) ∧ settle u' = .returning ∧ ∃ h', Rg h' ∧ Holds X h' w' ∧ Ext h1 w h' w')) (bodyPostS P fn c₀ cs fun e u' w' => (∃ v, e = .returned v) ∧ settle u' = .returning ∧ ∃ h', Rg h' ∧ Holds X h' w' ∧ Ext h1 w h' w')) [1] (act.put (some d1) v) cs' w := by
    intro cs' hcs
    have ex : (execOp (act.put (some d1) v).eval ⟨some d2, .assign (.tmp d1), ty2, p2, a2, none⟩).run P w = .ok (.value v) w := by
      show Result.ok (Next.value ((act.put (some d1) v).eval (.tmp d1))) w = _
      rw [hev]
    rw [wpOpsSIn]
    simp only [List.getElem?_toArray, List.getElem?_cons_succ, List.getElem?_cons_zero, Region.wanted, if_true]
    refine ⟨fun f _ => trivial, ?_⟩
    rw [ex]
    exact body cs' hcs
  show wpOpsSIn Fence.wide 0 P _ _ [0, 1] act (c₀ :: cs) w
  rw [wpOpsSIn]
  simp only [List.getElem?_toArray, List.getElem?_cons_zero, Region.wanted, if_true]
  refine ⟨fun f _ => trivial, ?_⟩
  have ex : (execOp act.eval ⟨some d1, .call { callee := .builtin .recover, args := #[], argTypes := ats }, ty1, p1, a1, none⟩).run P w = .ok .recover w := rfl
  rw [ex]
  rcases hr with ⟨rfl, rfl, rfl⟩ | ⟨rfl, rfl⟩
  · have er : recoverD (c₀ :: cs) = none := by simp [recoverD, hu]
    simp only [er]
    exact o2 _ (by rw [← hu])
  · have er : recoverD (c₀ :: cs) = some (v, { c₀ with mode := .panicking [{ v := v, recovered := true }] } :: cs) := by simp [recoverD, hu]
    simp only [er]
    exact o2 _ rfl
end
end Go.Proofs.YtnoicbajhlpndaaGreat.Hp
/- More rules: cuts of owned slices; clear; calls that only read what is owned. -/
namespace Go.Proofs.YtnoicbajhlpndaaGreat.Hp
open Go Go.RowKit Go.Shelf
set_option linter.unusedVariables false
set_option linter.unusedSimpArgs false
section
variable {P : Program} {X : Ctx} {N : Nat} {r : Option Nat} {Q : Post} {ds : List Deferred} {a : Tmps} {h : AHeap} {ops : Array Oper}
variable {rest : List Oper} {d : Tmp} {ty : TypeId} {pos : String} {aft : Array Edge}

/-- 's[i:]' of an owned slice, where something is left. -/
theorem o_tailo {t : TypeId} {x y : Operand} {b off len cap : Nat} {te k by_ : Nat} {i : Int} (hx : ev a x = some (.os b k off len cap)) [hs : SliceC P t te k by_]
    (hy : ev a y = some (I i)) (h1 : 0 ≤ i) (h2 : i.toNat < len) (h3 : len ≤ cap) (hN : d < N)
    (kk : WPs P X N r ops rest Q ds ((d, .os b k (off + i.toNat) (len - i.toNat) (cap - i.toNat)) :: a) h) : WPs P X N r ops (⟨some d, .slice t x (some y) none none, ty, pos, aft, none⟩ :: rest) Q ds a h :=
  o_pure hN (by intro c e; cases e) (fun act w s => by
    have hr0 := s.ev hx
    have ey := ev_raw s hy
    generalize hxv : act.eval x = z at hr0
    obtain ⟨hu, ii, zz, hi2, rfl, _, _, _, hpos, _⟩ := slK_get hs.out
    cases hr0
    obtain ⟨n, rfl⟩ : ∃ n : Nat, i = n := ⟨i.toNat, by omega⟩
    simp only [Int.toNat_natCast] at h2 ⊢
    have hb : (Instr.sliceBounds true len cap (some (.int .i64 (n : Int))) none none).run P w = .ok (n, len, cap) w := by
      have : n ≤ len := by omega
      simp [Instr.sliceBounds, Instr.sliceBound, asIntOf, go_sem, Sem.run_bind, Sem.run_pure, this]
    refine ⟨.slice (some ⟨b, (off + n) * ii.size, none⟩) (len - n) (cap - n), exec_v (m := Instr.sliceAt t (act.eval x) (some (act.eval y)) none none) rfl ?_, .os _ _ _ _ _⟩
    rw [hxv, ey]
    simp only [Instr.sliceAt]
    rw [run_bind (run_underlying0 hu w)]
    simp only [Instr.slice]
    rw [run_bind (run_underlying0 hu w)]
    simp only
    rw [run_bind hb]
    simp only
    rw [run_bind (run_sizeOf0 hi2 w)]
    simp only [Option.map_some, Addr.add_lit]
    rw [if_neg (by omega), Nat.add_mul]; rfl) kk
/-- 's[:i]' of an owned slice. -/
theorem o_fronto {t : TypeId} {x y : Operand} {b len cap : Nat} {te k by_ : Nat} {i : Int} (hx : ev a x = some (.os b k 0 len cap)) [hs : SliceC P t te k by_]
    (hy : ev a y = some (I i)) (h1 : 0 ≤ i) (h2 : i.toNat ≤ len) (h3 : len ≤ cap) (hN : d < N)
    (kk : WPs P X N r ops rest Q ds ((d, .os b k 0 i.toNat cap) :: a) h) : WPs P X N r ops (⟨some d, .slice t x none (some y) none, ty, pos, aft, none⟩ :: rest) Q ds a h :=
  o_pure hN (by intro c e; cases e) (fun act w s => by
    have hr0 := s.ev hx
    have ey := ev_raw s hy
    generalize hxv : act.eval x = z at hr0
    obtain ⟨hu, ii, zz, hi2, rfl, _, _, _, hpos, _⟩ := slK_get hs.out
    cases hr0
    obtain ⟨n, rfl⟩ : ∃ n : Nat, i = n := ⟨i.toNat, by omega⟩
    simp only [Int.toNat_natCast] at h2 ⊢
    have hb : (Instr.sliceBounds true len cap none (some (.int .i64 (n : Int))) none).run P w = .ok (0, n, cap) w := by
      have : n ≤ cap := by omega
      simp [Instr.sliceBounds, Instr.sliceBound, asIntOf, go_sem, Sem.run_bind, Sem.run_pure, this]
    refine ⟨.slice (some ⟨b, 0 * ii.size, none⟩) n cap, exec_v (m := Instr.sliceAt t (act.eval x) none (some (act.eval y)) none) rfl ?_, .os _ _ _ _ _⟩
    rw [hxv, ey]
    simp only [Instr.sliceAt]
    rw [run_bind (run_underlying0 hu w)]
    simp only [Instr.slice]
    rw [run_bind (run_underlying0 hu w)]
    simp only
    rw [run_bind hb]
    simp only
    rw [run_bind (run_sizeOf0 hi2 w)]
    simp only [Option.map_some, Addr.add_lit, Nat.zero_mul, Nat.sub_zero, Nat.add_zero, ite_self]; rfl) kk

theorem zeroCells_mem {z : Array Value} {n : Nat} {v : Value} (h : v ∈ (Builtin.zeroCells z n).toList) : v ∈ z.toList := by
  unfold Builtin.zeroCells at h
  simp only [Array.toList_map, Array.toList_range, List.mem_map, List.mem_range] at h
  obtain ⟨i, hi, rfl⟩ := h
  have hz : 0 < z.size := by
    rcases Nat.eq_zero_or_pos z.size with h0 | h0
    · rw [h0] at hi; simp at hi
    · exact h0
  have hlt : i % z.size < z.size := Nat.mod_lt _ hz
  rw [getElem!_pos z _ hlt]
  exact Array.mem_toList_iff.2 (Array.getElem_mem hlt)
/-- clear of an owned slice that is the end of a longer one: nobody asks for it any more. -/
theorem o_clearo {t : TypeId} {x : Operand} {b k off len cap c' : Nat} {te by_ : Nat} {es : List (List PV)} {zs : List PV} (i : Nat) (hx : ev a x = some (.os b k off len cap)) (hh : h[i]? = some (b, .arr te k es c')) [hs : SliceC P t te k by_]
    [hz : ZeroC P te zs] (hc : zs.all PV.isCell = true) (h1 : off + len ≤ c') (h2 : off ≤ es.length) (h3 : 0 < len)
    (kk : WPs P X N r ops rest Q ds a (h.set i (b, .arr te k (es.take off) c'))) : WPs P X N r ops (⟨none, .call { callee := .builtin .clear, args := #[x], argTypes := #[t] }, ty, pos, aft, none⟩ :: rest) Q ds a h := by
  intro act w s n
  have hr0 := s.ev hx
  generalize hxv : act.eval x = z at hr0
  obtain ⟨hu, ii, zz, hi2, rfl, _, hzz, hzs, hpos, _⟩ := slK_get hs.out
  obtain ⟨cells, hb, hsz, hcap, hk, hrr⟩ := s.arr hh
  cases hr0
  obtain ⟨z', hz1, hz2, hz3⟩ := zeroK_get hz.out w
  have hzz' : z' = zz := by
    have : (zeroValue te).run P w = .ok zz w := by simp [zeroValue, typeInfo, program, Sem.run, bind, Sem.bind, pure, hi2, hzz]
    rw [this] at hz1; cases hz1; rfl
  subst hzz'
  have hone : ∀ u ∈ (Builtin.zeroCells z'.cells len).toList, u.oneCell' = true := by
    intro u hu
    have hm := zeroCells_mem hu
    have h5 : zav u ∈ zs := by rw [hz2]; exact List.mem_map.2 ⟨u, hm, rfl⟩
    exact (zav_rel #[] (fun _ => False) u).isCell (List.all_eq_true.1 hc _ h5)
  have hlen : (Builtin.zeroCells z'.cells len).toList.length = len * ii.size := by simp [Builtin.zeroCells, hzs]
  have hfit : off * ii.size + (Builtin.zeroCells z'.cells len).toList.length ≤ cells.size := by rw [hlen, hsz, ← Nat.add_mul]; exact Nat.mul_le_mul_right _ h1
  have hst := run_storeCells_at P b (off * ii.size) te (Builtin.zeroCells z'.cells len).toList 0 cells w hb (by simpa using hfit) hone
  simp only [Nat.add_zero] at hst
  have hrun : (execOp act.eval ⟨none, .call { callee := .builtin .clear, args := #[x], argTypes := #[t] }, ty, pos, aft, none⟩).run P w = .ok (.value (.tuple #[])) (w.setRow b (setR cells.toList (off * ii.size) (Builtin.zeroCells z'.cells len).toList).toArray) := by
    have hcl : (Builtin.clear_ #[t] ty #[.slice (some ⟨b, off * ii.size, none⟩) len cap]).run P w = .ok (.tuple #[]) (w.setRow b (setR cells.toList (off * ii.size) (Builtin.zeroCells z'.cells len).toList).toArray) := by
      unfold Builtin.clear_
      simp only [List.getElem?_toArray, List.getElem?_cons_zero]
      rw [run_bind (run_underlying0 hu w)]
      obtain ⟨m, rfl⟩ : ∃ m, len = m + 1 := ⟨len - 1, by omega⟩
      simp only
      rw [run_bind hz1, run_bind hst]; rfl
    have e : execOp act.eval ⟨none, .call { callee := .builtin .clear, args := #[x], argTypes := #[t] }, ty, pos, aft, none⟩ = (do pure (.value (← Builtin.clear_ #[t] ty #[act.eval x]))) := by
      simp [execOp, resolve, invoke, builtin, bind, Sem.bind, pure]
    rw [e, hxv, run_bind hcl]; rfl
  have cg := chg_setRow w b (setR cells.toList (off * ii.size) (Builtin.zeroCells z'.cells len).toList).toArray
  have hS : off * ii.size + (Builtin.zeroCells z'.cells len).toList.length ≤ cells.toList.length := by simpa using hfit
  have hrel : RelO w.heap (Imm X h w) (.arr te ii.size (es.take off) c') (.cells (setR cells.toList (off * ii.size) (Builtin.zeroCells z'.cells len).toList).toArray te) := by
    refine .arr te ii.size (es.take off) c' _ (by have := setR_length hS; simpa [hsz] using this) (by simp; omega) (fun e he => hk e (List.mem_of_mem_take he)) fun i j e c v he hc hv => ?_
    have hio : i < off := by
      have := (List.getElem?_eq_some_iff.1 he).1
      simp at this; omega
    have hek : e.length = ii.size := hk e (List.mem_of_mem_take (List.mem_of_getElem? he))
    have hjk : j < ii.size := by have := (List.getElem?_eq_some_iff.1 hc).1; omega
    have hlt : i * ii.size + j < off * ii.size := by
      have : (i + 1) * ii.size ≤ off * ii.size := Nat.mul_le_mul_right _ (by omega)
      rw [Nat.add_mul, Nat.one_mul] at this; omega
    have hv2 : (setR cells.toList (off * ii.size) (Builtin.zeroCells z'.cells len).toList)[i * ii.size + j]? = some v := by simpa using hv
    rw [setR_get hS, if_neg (by omega)] at hv2
    refine hrr i j e c v ?_ hc (by simpa using hv2)
    rwa [List.getElem?_take_of_lt hio] at he
  obtain ⟨H, E⟩ := s.heap.chg hh cg ⟨_, setRow_heap w b cells _ te (0, 0) hb, hrel.mono (imm_set hh cg)⟩
  simp only [opsIn, Region.wanted, if_true]
  refine ⟨fun f _ => trivial, ?_⟩
  rw [Oper.semAt_eq _ _ _ (by intro c e; cases e), hrun]
  exact opsIn_mono (fun e a2 w2 p => post_ext E p) _ _ _ (kk _ _ (s.keep E H) n)

/-! ### a call that only reads what is owned -/
/-- What a caller lends: an owned slice, as plain data. -/
inductive Lend (b : Nat) (k : Nat) (es : List (List PV)) (cap : Nat) : AV → AV → Prop
  | refl (v : AV) : Lend b k es cap v v
  | os (len c : Nat) (hl : len = es.length) (hc : len ≤ c) : Lend b k es cap (.os b k 0 len c) (V es false)
inductive Lends (b : Nat) (k : Nat) (es : List (List PV)) (cap : Nat) : List AV → List AV → Prop
  | nil : Lends b k es cap [] []
  | cons {v v' : AV} {vs vs' : List AV} (h : Lend b k es cap v v') (hr : Lends b k es cap vs vs') : Lends b k es cap (v :: vs) (v' :: vs')
theorem Lends.get {b k cap : Nat} {es : List (List PV)} : ∀ {vs vs' : List AV}, Lends b k es cap vs vs' → vs.length = vs'.length ∧ ∀ (i : Nat) (v' : AV), vs'[i]? = some v' → ∃ v, vs[i]? = some v ∧ Lend b k es cap v v'
  | _, _, .nil => ⟨rfl, by intro i v h; simp at h⟩
  | _, _, .cons h hr => by
    obtain ⟨h1, h2⟩ := hr.get
    refine ⟨by simp [h1], fun i v' hv => ?_⟩
    cases i with
    | zero => simp at hv; subst hv; exact ⟨_, rfl, h⟩
    | succ i => simpa using h2 i v' (by simpa using hv)
theorem o_callL (i : Nat) {g : Operand} {xs : Array Operand} {ats : Array TypeId} {f : FuncId} {caps vs vs' : List AV} {b te k c' : Nat} {es : List (List PV)} {y : Value} (hh : h[i]? = some (b, .arr te k es c'))
    (hg : ev a g = some (.fn f caps)) (hx : evs a xs.toList = some vs) (he : Enters P f) (hN : d < N) (hl : Lends b k es c' vs vs') (hs : Fn1 P f (vs' ++ caps) (.p (.raw y))) (kk : WPs P X N r ops rest Q ds ((d, .p (.raw y)) :: a) h) :
    WPs P X N r ops (⟨some d, .call { callee := .value g, args := xs, argTypes := ats }, ty, pos, aft, none⟩ :: rest) Q ds a h := by
  have hil : i < h.length := (List.getElem?_eq_some_iff.1 hh).1
  have hge : h[i] = (b, .arr te k es c') := (List.getElem?_eq_some_iff.1 hh).2
  have hsub : (h.eraseIdx i).Sublist h := List.eraseIdx_sublist h i
  intro act w s n
  have hnb : b ∉ dom (h.eraseIdx i) := by
    have e1 : h = h.take i ++ (b, .arr te k es c') :: h.drop (i + 1) := by rw [← hge, List.getElem_cons_drop, List.take_append_drop]
    have hn := s.heap.nodup
    rw [e1] at hn
    rw [List.eraseIdx_eq_take_drop_succ]
    simp only [dom, List.map_append, List.map_cons] at hn ⊢
    have := (List.perm_middle.nodup_iff.1 hn)
    simpa using (List.nodup_cons.1 this).1
  -- the callee's world: the array is nobody's own, all else is set aside
  have H0 : Holds X (h.eraseIdx i) w := s.heap.sub hsub
  have hP : Holds (Aside X (h.eraseIdx i)) [] w := Holds.part (h1 := []) H0
  have hrg := s.ev hg
  have hvs := s.evs hx
  obtain ⟨cells, hb, hsz, hcap, hk, hrr⟩ := s.arr hh
  have hbi : Imm (Aside X (h.eraseIdx i)) [] w b := ⟨s.heap.lt (List.mem_map.2 ⟨_, List.mem_of_getElem? hh, rfl⟩), by simp [dom], fun hx => hx.elim (s.heap.nox b (List.mem_map.2 ⟨_, List.mem_of_getElem? hh, rfl⟩)) hnb⟩
  have himm : ∀ q, Imm X h w q → Imm (Aside X (h.eraseIdx i)) [] w q := fun q hq => ⟨hq.1, by simp [dom], fun hx => hx.elim hq.2.2 fun hm => hq.2.1 (dom_sub hsub q hm)⟩
  generalize hgv : act.eval g = gv at hrg
  cases hrg with
  | fn _ _ cvals hcs hcr =>
    simp only [opsIn, Region.wanted, if_true]
    refine ⟨fun f _ => trivial, ?_⟩
    rw [Oper.semAt_eq _ _ _ (by intro c h; cases h), run_call_value _ _ _ _ hgv he]
    have hlend : ∀ {v v' : AV} {x : Value}, Lend b k es c' v v' → RelA w.heap (Imm X h w) v x → RelA w.heap (Imm (Aside X (h.eraseIdx i)) [] w) v' x := by
      intro v v' x hL hR
      cases hL with
      | refl => exact hR.mono fun q hq => ⟨himm q hq, fun o ho => ho⟩
      | os len c hl2 hc2 =>
        cases hR
        subst hl2
        rw [Nat.zero_mul]
        exact .p (.vs es false b 0 k c cells te (0, 0) hb hbi (by simp) hc2 (by rw [hsz, Nat.zero_add]; exact Nat.mul_le_mul_right _ hcap) hk fun i j e c v he hc hv => (hrr i j e c v he hc (by simpa using hv)).mono fun q hq => ⟨himm q hq, fun o ho => ho⟩)
    have hvs' : RelAs w.heap (Imm (Aside X (h.eraseIdx i)) [] w) vs' (xs.toList.map act.eval).toArray := by
      obtain ⟨q1, q2⟩ := hl.get
      refine ⟨by rw [hvs.1, q1], fun j v' x hv hxx => ?_⟩
      obtain ⟨v, hv0, hL⟩ := q2 j v' hv
      exact hlend hL (hvs.2 j v x hv0 hxx)
    have hargs : RelAs w.heap (Imm (Aside X (h.eraseIdx i)) [] w) (vs' ++ caps) (#[] ++ xs.map act.eval ++ cvals) := by
      have h3 := RelAs.append hvs' (⟨hcs, fun j c v hc hv => (hcr j c v hc hv).mono fun q hq => ⟨himm q hq, fun o ho => ho⟩⟩ : RelAs w.heap (Imm (Aside X (h.eraseIdx i)) [] w) caps cvals)
      have e : (#[] ++ xs.map act.eval ++ cvals) = (xs.toList.map act.eval).toArray ++ cvals := by
        apply Array.ext'; simp
      rw [e]; exact h3
    have hc := hs _ w _ hP hargs
    refine ⟨fun h => (by simp [Fr, Fence.wide] at h), ?_⟩
    refine CallsIn.mono (R := fun e w' => ∃ E h', (∃ r', E = .ret r' ∧ r' = .p (.raw y) ∧ h' = []) ∧ RelE w'.heap (Imm (Aside X (h.eraseIdx i)) h' w') E e ∧ Holds (Aside X (h.eraseIdx i)) h' w' ∧ Ext [] w h' w') ?_ ?_
    · cases r with
      | none => exact callsIn_wide.2 hc
      | some l => exact CallsIn.inRound l (F := Fence.wide) (callsIn_wide.2 hc)
    · rintro e w' ⟨E, h', ⟨r', rfl, rfl, rfl⟩, hE, hH, hxx⟩
      -- what is owned has not been touched
      have keep : ∀ q, q < w.heap.size → w'.heap[q]? = w.heap[q]? := fun q hq => hxx.keep q hq (by simp [dom])
      have EJ : Ext h w h w' := ⟨hxx.os, hxx.tape, hxx.output, hxx.size, fun q hq _ => keep q hq, fun q _ hm => hm, hxx.fz⟩
      have hmono : ∀ q, Imm X h w q → Imm X h w' q ∧ ∀ o, w.heap[q]? = some o → w'.heap[q]? = some o := fun q hq => ⟨⟨Nat.lt_of_lt_of_le hq.1 hxx.size, hq.2⟩, fun o ho => (keep q hq.1).trans ho⟩
      have HJ : Holds X h w' := ⟨s.heap.nodup, s.heap.nox, fun q hq => Nat.lt_of_lt_of_le (s.heap.xlt q hq) hxx.size, X.mono' hmono s.heap.gh, fun q o ho => by
        obtain ⟨ob, g1, g2⟩ := s.heap.rel q o ho
        exact ⟨ob, (keep q (Array.getElem?_eq_some_iff.1 g1).1).trans g1, g2.mono hmono⟩⟩
      cases hE with
      | ret hv =>
        cases hv with
        | p hp =>
          cases hp
          exact opsIn_mono (fun e a2 w2 p => post_ext EJ p) _ _ _ (kk _ _ (s.put EJ HJ hN (.p (.raw _))) n)
end
end Go.Proofs.YtnoicbajhlpndaaGreat.Hp
/- More rules: two pieces of code, joined; an append of nothing. -/
namespace Go.Proofs.YtnoicbajhlpndaaGreat.Hp
open Go Go.RowKit Go.Shelf
set_option linter.unusedVariables false
set_option linter.unusedSimpArgs false
section
variable {P : Program} {X : Ctx} {N : Nat} {r : Option Nat} {Q : Post} {ds : List Deferred} {a : Tmps} {h : AHeap} {ops : Array Oper}
variable {rest : List Oper} {d : Tmp} {ty : TypeId} {pos : String} {aft : Array Edge}
theorem o_append00 {t : TypeId} {x y : Operand} {te k by_ : Nat} {es ys : List (List PV)} {f g : Bool} (hx : ev a x = some (V es f)) (hy : ev a y = some (V ys g)) (h0 : ys = []) [hs : SliceC P t te k by_] (hN : d < N)
    (kk : WPs P X N r ops rest Q ds ((d, V es f) :: a) h) : WPs P X N r ops (⟨some d, .call { callee := .builtin .append, args := #[x, y], argTypes := #[t, t] }, ty, pos, aft, none⟩ :: rest) Q ds a h := by
  subst h0; exact o_append0 hx hy hN kk
/-- 's[:i:i]' of plain data. -/
theorem o_front3 {t : TypeId} {x y z : Operand} {es : List (List PV)} {f : Bool} {te k by_ : Nat} {i : Int} (hx : ev a x = some (V es f)) [hs : SliceC P t te k by_]
    (hy : ev a y = some (I i)) (hz : ev a z = some (I i)) (h1 : 0 ≤ i) (h2 : i.toNat ≤ es.length) (hke : ∀ e ∈ es, e.length = k) (hN : d < N)
    (kk : WPs P X N r ops rest Q ds ((d, V (es.take i.toNat) true) :: a) h) : WPs P X N r ops (⟨some d, .slice t x none (some y) (some z), ty, pos, aft, none⟩ :: rest) Q ds a h :=
  o_cut (l := 0) (n := i.toNat) (o1' := none) (hi' := some i) (mx' := some i) hx rfl (by simp only [optI, hy]) (by simp only [optI, hz]) rfl (by simp; omega) (.inr (by simp; omega)) (.inr (by simp)) (Nat.zero_le _) h2 hke hN (by simpa using kk)
end
end Go.Proofs.YtnoicbajhlpndaaGreat.Hp
/- More rules: make of a slice. -/
namespace Go.Proofs.YtnoicbajhlpndaaGreat.Hp
open Go Go.RowKit Go.Shelf
set_option linter.unusedVariables false
set_option linter.unusedSimpArgs false
section
variable {P : Program} {X : Ctx} {N : Nat} {r : Option Nat} {Q : Post} {ds : List Deferred} {a : Tmps} {h : AHeap} {ops : Array Oper}
variable {rest : List Oper} {d : Tmp} {ty : TypeId} {pos : String} {aft : Array Edge}
theorem o_makeSlice {t : TypeId} {n te k by_ : Nat} {zs : List PV} [hs : SliceC P t te k by_] [hz : ZeroC P te zs] (hsm : Nat.ble n 100000 = true) (hN : d < N)
    (kk : ∀ b, WPs P X N r ops rest Q ds ((d, .os b k 0 n n) :: a) ((b, .arr te k (List.replicate n zs) n) :: h)) :
    WPs P X N r ops (⟨some d, .makeSlice t (.const (.int .i64 n)) (.const (.int .i64 n)), ty, pos, aft, none⟩ :: rest) Q ds a h :=
  o_run (fun v h' => ∃ b, v = .os b k 0 n n ∧ h' = (b, .arr te k (List.replicate n zs) n) :: h) hN (by intro c e; cases e) (fun act w s => by
    obtain ⟨hu, ii, z0, hi, hik, hib, hiz, hzc, hkpos, hby⟩ := slK_get hs.out
    subst hik
    have hsm' := Nat.le_of_ble_eq_true hsm
    obtain ⟨z, h1, h2, h3⟩ := zeroK_get hz.out w
    have hzz : z = z0 := by
      have : (zeroValue te).run P w = .ok z0 w := by simp [zeroValue, typeInfo, program, Sem.run, bind, Sem.bind, pure, hi, hiz]
      rw [this] at h1; cases h1; rfl
    subst hzz
    have hzl : zs.length = ii.size := by rw [h2]; simpa using hzc
    have hr := run_make (P := P) (w := w) t te ii z hu hi hiz .i64 .i64 n n (by omega) (Int.le_refl _) (by rw [hib]; have : by_ * n ≤ 1000 * 100000 := Nat.mul_le_mul hby hsm'; have h5 : ((by_ * n : Nat) : Int) ≤ 100000000 := by omega
                                                                                                           rw [Int.natCast_mul] at h5; omega) (by omega)
    simp only [Int.toNat_natCast] at hr
    have nw := new_alloc w (.cells (madeCells z.cells (n * ii.size)) te)
    have hrel : RelO (w.alloc (.cells (madeCells z.cells (n * ii.size)) te)).heap (Imm X ((w.heap.size, .arr te ii.size (List.replicate n zs) n) :: h) (w.alloc (.cells (madeCells z.cells (n * ii.size)) te))) (.arr te ii.size (List.replicate n zs) n) (.cells (madeCells z.cells (n * ii.size)) te) := by
      refine .arr te ii.size _ n _ (by simp [madeCells]) (by simp) (fun e he => by rw [List.eq_of_mem_replicate he, hzl]) fun i j e c v he hc hv => ?_
      have hin : i < n := by have := (List.getElem?_eq_some_iff.1 he).1; simpa using this
      have hee : e = zs := by
        have := List.mem_of_getElem? he; exact List.eq_of_mem_replicate this
      subst hee
      have hj : j < ii.size := by have := (List.getElem?_eq_some_iff.1 hc).1; omega
      have hlt : i * ii.size + j < n * ii.size := by
        have : (i + 1) * ii.size ≤ n * ii.size := Nat.mul_le_mul_right _ hin
        rw [Nat.add_mul, Nat.one_mul] at this; omega
      have hmod : (i * ii.size + j) % ii.size = j := by rw [Nat.mul_comm, Nat.mul_add_mod, Nat.mod_eq_of_lt hj]
      have hv2 : v = z.cells[j]! := by
        simp only [madeCells, Array.getElem?_map, Array.getElem?_range, hlt, if_true, Option.map_some, Option.some.injEq, hzc, hmod] at hv
        exact hv.symm
      have := (h3 w.heap (Imm X h w)).2 j (.p c) v (by rw [List.getElem?_map, hc]; rfl) (by rw [hv2]; simp [hzc, hj])
      cases this with | p hq => exact hq.mono (imm_new nw _)
    obtain ⟨H, E⟩ := s.heap.new nw hrel
    refine ⟨.slice (some ⟨w.heap.size, 0, none⟩) n n, _, .os w.heap.size ii.size 0 n n, _, ⟨_, rfl, rfl⟩, exec_v rfl hr, ?_, H, E⟩
    have := RelA.os (hp := (w.alloc (.cells (madeCells z.cells (n * ii.size)) te)).heap) (imm := Imm X ((w.heap.size, .arr te ii.size (List.replicate n zs) n) :: h) (w.alloc (.cells (madeCells z.cells (n * ii.size)) te))) w.heap.size ii.size 0 n n
    rwa [Nat.zero_mul] at this) fun v h' ⟨b, e1, e2⟩ => by subst e1; subst e2; exact kk b
theorem o_makeSlicep {t : TypeId} {n te k by_ : Nat} {zs : List PV} [hs : SliceC P t te k by_] [hz : ZeroC P te zs] (hsm : Nat.ble n 100000 = true) (hN : d < N)
    (kk : WPs P X N r ops rest Q ds ((d, V (List.replicate n zs) true) :: a) h) :
    WPs P X N r ops (⟨some d, .makeSlice t (.const (.int .i64 n)) (.const (.int .i64 n)), ty, pos, aft, none⟩ :: rest) Q ds a h :=
  o_makeSlice hsm hN fun b => by
    refine o_frz h (fun hn => (List.nodup_cons.1 hn).2) (fun b o ho => ⟨o, List.mem_cons_of_mem _ ho, .refl _⟩) (fun hn t v hv => ?_) kk
    by_cases ht : d = t
    · subst ht
      rw [lk_same] at hv; cases hv
      refine ⟨_, lk_same _ _ _, ?_⟩
      have := FrzA.os (h := (b, OB.arr te k (List.replicate n zs) n) :: h) (h' := h) b k 0 n n te (List.replicate n zs) n true List.mem_cons_self (List.nodup_cons.1 hn).1 (by simp) (Nat.le_refl _) (by simp)
      rw [List.drop_zero, List.take_of_length_le (by simp)] at this
      exact this
    · rw [lk_other _ _ ht] at hv
      exact ⟨v, by rw [lk_other _ _ ht]; exact hv, .refl _⟩
end
end Go.Proofs.YtnoicbajhlpndaaGreat.Hp
/- More rules: bools held against each other. -/
namespace Go.Proofs.YtnoicbajhlpndaaGreat.Hp
open Go Go.RowKit Go.Shelf
set_option linter.unusedVariables false
class BoolC (P : Program) (t : TypeId) : Prop where
  out : P.underlying t = some .bool
section
variable {P : Program} {X : Ctx} {N : Nat} {r : Option Nat} {Q : Post} {ds : List Deferred} {a : Tmps} {h : AHeap} {ops : Array Oper}
variable {rest : List Oper} {d : Tmp} {ty : TypeId} {pos : String} {aft : Array Edge}
theorem run_eqB {t : TypeId} (hB : BoolC P t) (x y : Bool) (w : World) : (Op.equal t (.bool x) (.bool y)).run P w = .ok (x == y) w := by
  show (Op.equalIn (9999 + 1) t _ _).run P w = _
  unfold Op.equalIn
  rw [run_bind (run_underlying0 hB.out w)]; rfl
theorem o_nebb {t t1 : TypeId} [hB : BoolC P t] {x y : Operand} {u v : Bool} (hx : ev a x = some (B u)) (hy : ev a y = some (B v)) (hN : d < N) (k : WPs P X N r ops rest Q ds ((d, B (u != v)) :: a) h) :
    WPs P X N r ops (⟨some d, .binOp .neq t x y t1, ty, pos, aft, none⟩ :: rest) Q ds a h :=
  o_pure hN (by intro c e; cases e) (fun act w s => by
    refine ⟨.bool (u != v), exec_v (m := (do eqGuard .neq t x y (act.eval x) (act.eval y); binOp .neq t (act.eval x) (act.eval y))) rfl ?_, .p (.raw _)⟩
    rw [ev_raw s hx, ev_raw s hy]
    have h2 : (eqGuard .neq t x y (.bool u) (.bool v)).run P w = .ok () w := rfl
    rw [run_bind h2]
    show ((do pure (.bool (!(← Op.equal t (.bool u) (.bool v))))) : Sem Value).run P w = _
    rw [run_bind (run_eqB hB u v w)]; rfl) k
end
end Go.Proofs.YtnoicbajhlpndaaGreat.Hp
/- Short names of rules, for the claims' merged texts. -/
namespace Go.Proofs.YtnoicbajhlpndaaGreat.Hp
open Go Go.RowKit Go.Shelf
theorem Z {α : Sort _} {a : α} : a = a := rfl
theorem K {p : Prop} [Decidable p] (h : decide p = true := by rfl) : p := of_decide_eq_true h
abbrev G := @o_move
abbrev S := @o_assign
abbrev U := @o_guardn
abbrev W := @o_guardy
abbrev O := @o_load
abbrev F := @o_faddr
abbrev H := @h_region
theorem C {P : Program} {X : Ctx} {N : Nat} {r : Option Nat} {Q : Post} {ds : List Deferred} {a : Tmps} {h h0 hk : AHeap} {ops : Array Oper} {l : List (Nat × Cls)} {i : Nat} {o : Oper} {d : Tmp} {v : AV} (ho : ops[i]? = some o) (hd : o.dst = some d)
    (hop : ∀ {X r Q ds}, WPs P X N r ops [] Q ds ((d, v) :: restr (o.looksAt ops) a) [] → WPs P X N r ops [o] Q ds (restr (o.looksAt ops) a) []) (k : Ch P X N r ops Q ds (h0, hk) l ((d, v) :: a) h) : Ch P X N r ops Q ds (h0, hk) ((i, .flo) :: l) a h :=
  c_flo ho hd (fun _ _ _ _ => hop) k
end Go.Proofs.YtnoicbajhlpndaaGreat.Hp
/- The closed facts of this seat's translation: what its types are, and which functions have a body. -/
namespace Go.Proofs.YtnoicbajhlpndaaGreat
open Go Go.RowKit Go.Shelf Hp
instance : TyC Tryz.prog 3 false 1 := ⟨by kernel_rfl⟩
instance : TyC Tryz.prog 4 false 1 := ⟨by kernel_rfl⟩
instance : TyC Tryz.prog 22 true 3 := ⟨by kernel_rfl⟩
instance : TyC Tryz.prog 23 false 1 := ⟨by kernel_rfl⟩
instance : TyC Tryz.prog 25 false 1 := ⟨by kernel_rfl⟩
instance : TyC Tryz.prog 26 true 7 := ⟨by kernel_rfl⟩
instance : TyC Tryz.prog 27 false 1 := ⟨by kernel_rfl⟩
instance : TyC Tryz.prog 29 false 1 := ⟨by kernel_rfl⟩
instance : TyC Tryz.prog 30 false 1 := ⟨by kernel_rfl⟩
instance : TyC Tryz.prog 32 true 5 := ⟨by kernel_rfl⟩
instance : TyC Tryz.prog 39 true 2 := ⟨by kernel_rfl⟩
instance : TyC Tryz.prog 41 true 8 := ⟨by kernel_rfl⟩
instance : TyC Tryz.prog 44 false 1 := ⟨by kernel_rfl⟩
instance : TyC Tryz.prog 52 false 1 := ⟨by kernel_rfl⟩
instance : TyC Tryz.prog 75 true 4 := ⟨by kernel_rfl⟩
instance : TyC Tryz.prog 76 true 6 := ⟨by kernel_rfl⟩
instance : TyC Tryz.prog 78 true 11 := ⟨by kernel_rfl⟩
instance : TyC Tryz.prog 80 true 4 := ⟨by kernel_rfl⟩
instance : TyC Tryz.prog 82 true 6 := ⟨by kernel_rfl⟩
instance : TyC Tryz.prog 83 false 1 := ⟨by kernel_rfl⟩
instance : TyC Tryz.prog 88 false 1 := ⟨by kernel_rfl⟩
instance : TyC Tryz.prog 95 false 1 := ⟨by kernel_rfl⟩
instance : TyC Tryz.prog 97 true 8 := ⟨by kernel_rfl⟩
instance : TyC Tryz.prog 98 false 1 := ⟨by kernel_rfl⟩
instance : TyC Tryz.prog 99 false 1 := ⟨by kernel_rfl⟩
instance : TyC Tryz.prog 101 true 8 := ⟨by kernel_rfl⟩
instance : TyC Tryz.prog 103 true 2 := ⟨by kernel_rfl⟩
instance : TyC Tryz.prog 114 true 3 := ⟨by kernel_rfl⟩
instance : TyC Tryz.prog 116 true 3 := ⟨by kernel_rfl⟩
instance : TyC Tryz.prog 154 true 3 := ⟨by kernel_rfl⟩
instance : TyC Tryz.prog 156 true 3 := ⟨by kernel_rfl⟩
instance : TyC Tryz.prog 159 false 1 := ⟨by kernel_rfl⟩
instance : TyC Tryz.prog 166 true 4 := ⟨by kernel_rfl⟩
instance : TyC Tryz.prog 170 true 8 := ⟨by kernel_rfl⟩
instance : TyC Tryz.prog 172 true 7 := ⟨by kernel_rfl⟩
instance : TyC Tryz.prog 174 true 4 := ⟨by kernel_rfl⟩
instance : TyC Tryz.prog 181 true 5 := ⟨by kernel_rfl⟩
instance : TyC Tryz.prog 189 true 0 := ⟨by kernel_rfl⟩
instance : TyC Tryz.prog 197 true 5 := ⟨by kernel_rfl⟩
instance : TyC Tryz.prog 209 false 1 := ⟨by kernel_rfl⟩
instance : TyC Tryz.prog 211 false 1 := ⟨by kernel_rfl⟩
instance : TyC Tryz.prog 214 true 13 := ⟨by kernel_rfl⟩
instance : TyC Tryz.prog 216 false 1 := ⟨by kernel_rfl⟩
instance : TyC Tryz.prog 218 false 1 := ⟨by kernel_rfl⟩
instance : TyC Tryz.prog 220 true 2 := ⟨by kernel_rfl⟩
instance : TyC Tryz.prog 224 true 3 := ⟨by kernel_rfl⟩
instance : TyC Tryz.prog 235 false 1 := ⟨by kernel_rfl⟩
instance : TyC Tryz.prog 239 true 3 := ⟨by kernel_rfl⟩
instance : TyC Tryz.prog 261 true 3 := ⟨by kernel_rfl⟩
instance : TyC Tryz.prog 281 true 3 := ⟨by kernel_rfl⟩
instance : TyC Tryz.prog 290 false 1 := ⟨by kernel_rfl⟩
instance : StructC Tryz.prog 32 [(0, 1, false), (1, 1, false), (2, 1, false), (3, 1, false), (4, 1, false)] := ⟨by kernel_rfl⟩
instance : StructC Tryz.prog 39 [(0, 1, false), (1, 1, false)] := ⟨by kernel_rfl⟩
instance : StructC Tryz.prog 41 [(0, 1, false), (1, 1, false), (2, 1, false), (3, 1, false), (4, 1, false), (5, 2, true), (7, 1, false)] := ⟨by kernel_rfl⟩
instance : StructC Tryz.prog 78 [(0, 4, true), (4, 6, true), (10, 1, false)] := ⟨by kernel_rfl⟩
instance : StructC Tryz.prog 80 [(0, 1, false), (1, 1, false), (2, 1, false), (3, 1, false)] := ⟨by kernel_rfl⟩
instance : StructC Tryz.prog 82 [(0, 1, false), (1, 1, false), (2, 1, false), (3, 1, false), (4, 1, false), (5, 1, false)] := ⟨by kernel_rfl⟩
instance : StructC Tryz.prog 97 [(0, 1, false), (1, 1, false), (2, 4, true), (6, 1, false), (7, 1, false)] := ⟨by kernel_rfl⟩
instance : StructC Tryz.prog 101 [(0, 1, false), (1, 1, false), (2, 4, true), (6, 1, false), (7, 1, false)] := ⟨by kernel_rfl⟩
instance : StructC Tryz.prog 114 [(0, 1, false), (1, 1, false), (2, 1, false)] := ⟨by kernel_rfl⟩
instance : StructC Tryz.prog 116 [(0, 2, true), (2, 1, false)] := ⟨by kernel_rfl⟩
instance : StructC Tryz.prog 154 [(0, 1, false), (1, 1, false), (2, 1, false)] := ⟨by kernel_rfl⟩
instance : StructC Tryz.prog 156 [(0, 1, false), (1, 1, false), (2, 1, false)] := ⟨by kernel_rfl⟩
instance : StructC Tryz.prog 166 [(0, 1, false), (1, 1, false), (2, 1, false), (3, 1, false)] := ⟨by kernel_rfl⟩
instance : StructC Tryz.prog 170 [(0, 6, true), (6, 1, false), (7, 1, false)] := ⟨by kernel_rfl⟩
instance : StructC Tryz.prog 172 [(0, 6, true), (6, 1, false)] := ⟨by kernel_rfl⟩
instance : StructC Tryz.prog 174 [(0, 1, false), (1, 1, false), (2, 1, false), (3, 1, false)] := ⟨by kernel_rfl⟩
instance : StructC Tryz.prog 179 [(0, 1, false), (1, 1, false), (2, 1, false)] := ⟨by kernel_rfl⟩
instance : StructC Tryz.prog 181 [(0, 3, true), (3, 1, false), (4, 1, false)] := ⟨by kernel_rfl⟩
instance : StructC Tryz.prog 189 [] := ⟨by kernel_rfl⟩
instance : StructC Tryz.prog 197 [(0, 5, true)] := ⟨by kernel_rfl⟩
instance : StructC Tryz.prog 214 [(0, 4, true), (4, 6, true), (10, 1, false), (11, 1, false), (12, 1, false)] := ⟨by kernel_rfl⟩
instance : StructC Tryz.prog 220 [(0, 1, false), (1, 1, false)] := ⟨by kernel_rfl⟩
instance : StructC Tryz.prog 224 [(0, 1, false), (1, 1, false), (2, 1, false)] := ⟨by kernel_rfl⟩
instance : StructC Tryz.prog 239 [(0, 1, false), (1, 1, false), (2, 1, false)] := ⟨by kernel_rfl⟩
instance : StructC Tryz.prog 253 [(0, 1, false), (1, 1, false)] := ⟨by kernel_rfl⟩
instance : StructC Tryz.prog 261 [(0, 1, false), (1, 1, false), (2, 1, false)] := ⟨by kernel_rfl⟩
instance : StructC Tryz.prog 281 [(0, 1, false), (1, 1, false), (2, 1, false)] := ⟨by kernel_rfl⟩
instance : SliceC Tryz.prog 23 22 3 24 := ⟨by kernel_rfl⟩
instance : SliceC Tryz.prog 24 26 7 56 := ⟨by kernel_rfl⟩
instance : SliceC Tryz.prog 25 41 8 64 := ⟨by kernel_rfl⟩
instance : SliceC Tryz.prog 27 114 3 24 := ⟨by kernel_rfl⟩
instance : SliceC Tryz.prog 29 116 3 24 := ⟨by kernel_rfl⟩
instance : SliceC Tryz.prog 30 3 1 8 := ⟨by kernel_rfl⟩
instance : SliceC Tryz.prog 43 32 5 88 := ⟨by kernel_rfl⟩
instance : SliceC Tryz.prog 49 25 1 24 := ⟨by kernel_rfl⟩
instance : SliceC Tryz.prog 54 27 1 24 := ⟨by kernel_rfl⟩
instance : SliceC Tryz.prog 83 154 3 24 := ⟨by kernel_rfl⟩
instance : SliceC Tryz.prog 88 156 3 24 := ⟨by kernel_rfl⟩
instance : SliceC Tryz.prog 95 170 8 80 := ⟨by kernel_rfl⟩
instance : SliceC Tryz.prog 98 224 3 24 := ⟨by kernel_rfl⟩
instance : SliceC Tryz.prog 99 172 7 72 := ⟨by kernel_rfl⟩
instance : SliceC Tryz.prog 104 103 2 16 := ⟨by kernel_rfl⟩
instance : SliceC Tryz.prog 105 82 6 48 := ⟨by kernel_rfl⟩
instance : SliceC Tryz.prog 229 179 3 24 := ⟨by kernel_rfl⟩
instance : SliceC Tryz.prog 236 239 3 24 := ⟨by kernel_rfl⟩
instance : SliceC Tryz.prog 258 261 3 24 := ⟨by kernel_rfl⟩
instance : SliceC Tryz.prog 282 281 3 24 := ⟨by kernel_rfl⟩
instance : ArrC Tryz.prog 22 3 3 1 := ⟨by kernel_rfl⟩
instance : ArrC Tryz.prog 26 7 3 1 := ⟨by kernel_rfl⟩
instance : ArrC Tryz.prog 75 4 3 1 := ⟨by kernel_rfl⟩
instance : ArrC Tryz.prog 76 6 3 1 := ⟨by kernel_rfl⟩
instance : ArrC Tryz.prog 103 2 3 1 := ⟨by kernel_rfl⟩
instance : ZeroC Tryz.prog 3 [.raw (.int .i64 0)] := ⟨by kernel_rfl⟩
instance : ZeroC Tryz.prog 22 [.raw (.int .i64 0), .raw (.int .i64 0), .raw (.int .i64 0)] := ⟨by kernel_rfl⟩
instance : ZeroC Tryz.prog 25 [.vs [] true] := ⟨by kernel_rfl⟩
instance : ZeroC Tryz.prog 26 [.raw (.int .i64 0), .raw (.int .i64 0), .raw (.int .i64 0), .raw (.int .i64 0), .raw (.int .i64 0), .raw (.int .i64 0), .raw (.int .i64 0)] := ⟨by kernel_rfl⟩
instance : ZeroC Tryz.prog 27 [.vs [] true] := ⟨by kernel_rfl⟩
instance : ZeroC Tryz.prog 29 [.vs [] true] := ⟨by kernel_rfl⟩
instance : ZeroC Tryz.prog 30 [.vs [] true] := ⟨by kernel_rfl⟩
instance : ZeroC Tryz.prog 32 [.raw (.int .i64 0), .raw (.int .i64 0), .vs [] true, .vs [] true, .vs [] true] := ⟨by kernel_rfl⟩
instance : ZeroC Tryz.prog 39 [.raw (.int .i64 0), .raw (.int .i64 0)] := ⟨by kernel_rfl⟩
instance : ZeroC Tryz.prog 41 [.raw (.int .i64 0), .raw (.int .i64 0), .raw (.int .i64 0), .raw (.int .i64 0), .raw (.int .i64 0), .raw (.int .i64 0), .raw (.int .i64 0), .raw (.int .i64 0)] := ⟨by kernel_rfl⟩
instance : ZeroC Tryz.prog 44 [.raw (.int .i64 0)] := ⟨by kernel_rfl⟩
instance : ZeroC Tryz.prog 75 [.raw (.int .i64 0), .raw (.int .i64 0), .raw (.int .i64 0), .raw (.int .i64 0)] := ⟨by kernel_rfl⟩
instance : ZeroC Tryz.prog 76 [.raw (.int .i64 0), .raw (.int .i64 0), .raw (.int .i64 0), .raw (.int .i64 0), .raw (.int .i64 0), .raw (.int .i64 0)] := ⟨by kernel_rfl⟩
instance : ZeroC Tryz.prog 78 [.raw (.int .i64 0), .raw (.int .i64 0), .raw (.int .i64 0), .raw (.int .i64 0), .raw (.int .i64 0), .raw (.int .i64 0), .raw (.int .i64 0), .raw (.int .i64 0), .raw (.int .i64 0), .raw (.int .i64 0), .vs [] true] := ⟨by kernel_rfl⟩
instance : ZeroC Tryz.prog 80 [.raw (.int .i64 0), .raw (.int .i64 0), .raw (.int .i64 0), .raw (.int .i64 0)] := ⟨by kernel_rfl⟩
instance : ZeroC Tryz.prog 82 [.raw (.int .i64 0), .raw (.int .i64 0), .raw (.int .i64 0), .raw (.int .i64 0), .raw (.int .i64 0), .raw (.bool false)] := ⟨by kernel_rfl⟩
instance : ZeroC Tryz.prog 101 [.raw (.int .i64 0), .raw (.int .i64 0), .raw (.int .i64 0), .raw (.int .i64 0), .raw (.int .i64 0), .raw (.int .i64 0), .vs [] true, .vs [] true] := ⟨by kernel_rfl⟩
instance : ZeroC Tryz.prog 103 [.raw (.int .i64 0), .raw (.int .i64 0)] := ⟨by kernel_rfl⟩
instance : ZeroC Tryz.prog 114 [.raw (.int .i64 0), .raw (.int .i64 0), .raw (.int .i64 0)] := ⟨by kernel_rfl⟩
instance : ZeroC Tryz.prog 116 [.raw (.int .i64 0), .raw (.int .i64 0), .raw (.int .i64 0)] := ⟨by kernel_rfl⟩
instance : ZeroC Tryz.prog 154 [.raw (.int .i64 0), .raw (.int .i64 0), .raw (.int .i64 0)] := ⟨by kernel_rfl⟩
instance : ZeroC Tryz.prog 156 [.raw (.int .i64 0), .raw (.int .i64 0), .raw (.int .i64 0)] := ⟨by kernel_rfl⟩
instance : ZeroC Tryz.prog 170 [.raw (.int .i64 0), .raw (.int .i64 0), .raw (.int .i64 0), .raw (.int .i64 0), .raw (.int .i64 0), .raw (.int .i64 0), .vs [] true, .raw (.int .i64 0)] := ⟨by kernel_rfl⟩
instance : ZeroC Tryz.prog 172 [.raw (.int .i64 0), .raw (.int .i64 0), .raw (.int .i64 0), .raw (.int .i64 0), .raw (.int .i64 0), .raw (.bool false), .vs [] true] := ⟨by kernel_rfl⟩
instance : ZeroC Tryz.prog 174 [.raw (.int .i64 0), .raw (.int .i64 0), .raw (.int .i64 0), .raw (.int .i64 0)] := ⟨by kernel_rfl⟩
instance : ZeroC Tryz.prog 179 [.raw (.int .i64 0), .raw (.int .i64 0), .raw (.int .i64 0)] := ⟨by kernel_rfl⟩
instance : ZeroC Tryz.prog 181 [.raw (.int .i64 0), .raw (.int .i64 0), .raw (.int .i64 0), .vs [] true, .raw (.int .i64 0)] := ⟨by kernel_rfl⟩
instance : ZeroC Tryz.prog 189 [] := ⟨by kernel_rfl⟩
instance : ZeroC Tryz.prog 197 [.raw (.int .i64 0), .raw (.int .i64 0), .vs [] true, .vs [] true, .vs [] true] := ⟨by kernel_rfl⟩
instance : ZeroC Tryz.prog 214 [.raw (.int .i64 0), .raw (.int .i64 0), .raw (.int .i64 0), .raw (.int .i64 0), .raw (.int .i64 0), .raw (.int .i64 0), .raw (.int .i64 0), .raw (.int .i64 0), .raw (.int .i64 0), .raw (.bool false), .raw (.map none), .raw (.map none), .vs [] true] := ⟨by kernel_rfl⟩
instance : ZeroC Tryz.prog 220 [.raw .nilFunc, .raw (.int .i64 0)] := ⟨by kernel_rfl⟩
instance : ZeroC Tryz.prog 224 [.raw (.int .i64 0), .raw (.int .i64 0), .raw (.int .i64 0)] := ⟨by kernel_rfl⟩
instance : ZeroC Tryz.prog 239 [.raw (.int .i64 0), .raw (.int .i64 0), .raw (.bool false)] := ⟨by kernel_rfl⟩
instance : ZeroC Tryz.prog 253 [.raw (.int .i64 0), .raw (.int .i64 0)] := ⟨by kernel_rfl⟩
instance : ZeroC Tryz.prog 261 [.raw (.int .i64 0), .raw (.int .i64 0), .raw (.bool false)] := ⟨by kernel_rfl⟩
instance : ZeroC Tryz.prog 281 [.raw (.int .i64 0), .raw (.int .i64 0), .raw (.bool false)] := ⟨by kernel_rfl⟩
instance : ZeroC Tryz.prog 290 [.raw .nilFunc] := ⟨by kernel_rfl⟩
instance : EqC Tryz.prog 39 [.int, .int] := ⟨by kernel_rfl, by kernel_rfl, by kernel_rfl⟩
instance : EqC Tryz.prog 82 [.int, .int, .int, .int, .int, .bool] := ⟨by kernel_rfl, by kernel_rfl, by kernel_rfl⟩
instance : EqC Tryz.prog 114 [.int, .int, .int] := ⟨by kernel_rfl, by kernel_rfl, by kernel_rfl⟩
instance : EqC Tryz.prog 116 [.int, .int, .int] := ⟨by kernel_rfl, by kernel_rfl, by kernel_rfl⟩
instance : EqC Tryz.prog 156 [.int, .int, .int] := ⟨by kernel_rfl, by kernel_rfl, by kernel_rfl⟩
instance : MapC Tryz.prog 192 3 191 := ⟨by kernel_rfl, by kernel_rfl⟩
instance : ZeroC Tryz.prog 191 [.raw .nilFunc] := ⟨by kernel_rfl⟩
instance : ZeroV Tryz.prog 191 .nilFunc := ⟨by kernel_rfl⟩
instance : FuncC Tryz.prog 191 := ⟨by kernel_rfl⟩
instance : BoolC Tryz.prog 4 := ⟨by kernel_rfl⟩
instance : IfaceC Tryz.prog 20 := ⟨by kernel_rfl⟩
instance : ZeroV Tryz.prog 189 (.agg #[]) := ⟨by kernel_rfl⟩
instance : EntC Tryz.prog 2 := ⟨enters_of Tryz.func2 (by kernel_rfl) rfl⟩
instance : EntC Tryz.prog 3 := ⟨enters_of Tryz.func3 (by kernel_rfl) rfl⟩
instance : EntC Tryz.prog 4 := ⟨enters_of Tryz.func4 (by kernel_rfl) rfl⟩
instance : EntC Tryz.prog 5 := ⟨enters_of Tryz.func5 (by kernel_rfl) rfl⟩
instance : EntC Tryz.prog 6 := ⟨enters_of Tryz.func6 (by kernel_rfl) rfl⟩
instance : EntC Tryz.prog 7 := ⟨enters_of Tryz.func7 (by kernel_rfl) rfl⟩
instance : EntC Tryz.prog 8 := ⟨enters_of Tryz.func8 (by kernel_rfl) rfl⟩
instance : EntC Tryz.prog 9 := ⟨enters_of Tryz.func9 (by kernel_rfl) rfl⟩
instance : EntC Tryz.prog 10 := ⟨enters_of Tryz.func10 (by kernel_rfl) rfl⟩
instance : EntC Tryz.prog 11 := ⟨enters_of Tryz.func11 (by kernel_rfl) rfl⟩
instance : EntC Tryz.prog 12 := ⟨enters_of Tryz.func12 (by kernel_rfl) rfl⟩
instance : EntC Tryz.prog 13 := ⟨enters_of Tryz.func13 (by kernel_rfl) rfl⟩
instance : EntC Tryz.prog 14 := ⟨enters_of Tryz.func14 (by kernel_rfl) rfl⟩
instance : EntC Tryz.prog 15 := ⟨enters_of Tryz.func15 (by kernel_rfl) rfl⟩
instance : EntC Tryz.prog 16 := ⟨enters_of Tryz.func16 (by kernel_rfl) rfl⟩
instance : EntC Tryz.prog 17 := ⟨enters_of Tryz.func17 (by kernel_rfl) rfl⟩
instance : EntC Tryz.prog 18 := ⟨enters_of Tryz.func18 (by kernel_rfl) rfl⟩
instance : EntC Tryz.prog 19 := ⟨enters_of Tryz.func19 (by kernel_rfl) rfl⟩
instance : EntC Tryz.prog 20 := ⟨enters_of Tryz.func20 (by kernel_rfl) rfl⟩
instance : EntC Tryz.prog 21 := ⟨enters_of Tryz.func21 (by kernel_rfl) rfl⟩
instance : EntC Tryz.prog 22 := ⟨enters_of Tryz.func22 (by kernel_rfl) rfl⟩
instance : EntC Tryz.prog 23 := ⟨enters_of Tryz.func23 (by kernel_rfl) rfl⟩
instance : EntC Tryz.prog 24 := ⟨enters_of Tryz.func24 (by kernel_rfl) rfl⟩
instance : EntC Tryz.prog 25 := ⟨enters_of Tryz.func25 (by kernel_rfl) rfl⟩
instance : EntC Tryz.prog 26 := ⟨enters_of Tryz.func26 (by kernel_rfl) rfl⟩
instance : EntC Tryz.prog 27 := ⟨enters_of Tryz.func27 (by kernel_rfl) rfl⟩
instance : EntC Tryz.prog 28 := ⟨enters_of Tryz.func28 (by kernel_rfl) rfl⟩
instance : EntC Tryz.prog 29 := ⟨enters_of Tryz.func29 (by kernel_rfl) rfl⟩
instance : EntC Tryz.prog 30 := ⟨enters_of Tryz.func30 (by kernel_rfl) rfl⟩
instance : EntC Tryz.prog 31 := ⟨enters_of Tryz.func31 (by kernel_rfl) rfl⟩
instance : EntC Tryz.prog 32 := ⟨enters_of Tryz.func32 (by kernel_rfl) rfl⟩
instance : EntC Tryz.prog 33 := ⟨enters_of Tryz.func33 (by kernel_rfl) rfl⟩
instance : EntC Tryz.prog 34 := ⟨enters_of Tryz.func34 (by kernel_rfl) rfl⟩
instance : EntC Tryz.prog 35 := ⟨enters_of Tryz.func35 (by kernel_rfl) rfl⟩
instance : EntC Tryz.prog 36 := ⟨enters_of Tryz.func36 (by kernel_rfl) rfl⟩
instance : EntC Tryz.prog 37 := ⟨enters_of Tryz.func37 (by kernel_rfl) rfl⟩
instance : EntC Tryz.prog 38 := ⟨enters_of Tryz.func38 (by kernel_rfl) rfl⟩
instance : EntC Tryz.prog 39 := ⟨enters_of Tryz.func39 (by kernel_rfl) rfl⟩
instance : EntC Tryz.prog 40 := ⟨enters_of Tryz.func40 (by kernel_rfl) rfl⟩
instance : EntC Tryz.prog 41 := ⟨enters_of Tryz.func41 (by kernel_rfl) rfl⟩
instance : EntC Tryz.prog 42 := ⟨enters_of Tryz.func42 (by kernel_rfl) rfl⟩
instance : EntC Tryz.prog 43 := ⟨enters_of Tryz.func43 (by kernel_rfl) rfl⟩
instance : EntC Tryz.prog 44 := ⟨enters_of Tryz.func44 (by kernel_rfl) rfl⟩
instance : EntC Tryz.prog 45 := ⟨enters_of Tryz.func45 (by kernel_rfl) rfl⟩
instance : EntC Tryz.prog 46 := ⟨enters_of Tryz.func46 (by kernel_rfl) rfl⟩
instance : EntC Tryz.prog 47 := ⟨enters_of Tryz.func47 (by kernel_rfl) rfl⟩
instance : EntC Tryz.prog 48 := ⟨enters_of Tryz.func48 (by kernel_rfl) rfl⟩
instance : EntC Tryz.prog 49 := ⟨enters_of Tryz.func49 (by kernel_rfl) rfl⟩
instance : EntC Tryz.prog 50 := ⟨enters_of Tryz.func50 (by kernel_rfl) rfl⟩
instance : EntC Tryz.prog 51 := ⟨enters_of Tryz.func51 (by kernel_rfl) rfl⟩
instance : EntC Tryz.prog 52 := ⟨enters_of Tryz.func52 (by kernel_rfl) rfl⟩
instance : EntC Tryz.prog 53 := ⟨enters_of Tryz.func53 (by kernel_rfl) rfl⟩
instance : EntC Tryz.prog 54 := ⟨enters_of Tryz.func54 (by kernel_rfl) rfl⟩
instance : EntC Tryz.prog 55 := ⟨enters_of Tryz.func55 (by kernel_rfl) rfl⟩
instance : EntC Tryz.prog 56 := ⟨enters_of Tryz.func56 (by kernel_rfl) rfl⟩
instance : EntC Tryz.prog 57 := ⟨enters_of Tryz.func57 (by kernel_rfl) rfl⟩
instance : EntC Tryz.prog 58 := ⟨enters_of Tryz.func58 (by kernel_rfl) rfl⟩
instance : EntC Tryz.prog 59 := ⟨enters_of Tryz.func59 (by kernel_rfl) rfl⟩
instance : EntC Tryz.prog 60 := ⟨enters_of Tryz.func60 (by kernel_rfl) rfl⟩
instance : EntC Tryz.prog 61 := ⟨enters_of Tryz.func61 (by kernel_rfl) rfl⟩
instance : EntC Tryz.prog 62 := ⟨enters_of Tryz.func62 (by kernel_rfl) rfl⟩
instance : EntC Tryz.prog 63 := ⟨enters_of Tryz.func63 (by kernel_rfl) rfl⟩
instance : EntC Tryz.prog 64 := ⟨enters_of Tryz.func64 (by kernel_rfl) rfl⟩
instance : EntC Tryz.prog 65 := ⟨enters_of Tryz.func65 (by kernel_rfl) rfl⟩
instance : EntC Tryz.prog 66 := ⟨enters_of Tryz.func66 (by kernel_rfl) rfl⟩
instance : EntC Tryz.prog 67 := ⟨enters_of Tryz.func67 (by kernel_rfl) rfl⟩
instance : EntC Tryz.prog 68 := ⟨enters_of Tryz.func68 (by kernel_rfl) rfl⟩
instance : EntC Tryz.prog 69 := ⟨enters_of Tryz.func69 (by kernel_rfl) rfl⟩
instance : EntC Tryz.prog 70 := ⟨enters_of Tryz.func70 (by kernel_rfl) rfl⟩
instance : EntC Tryz.prog 71 := ⟨enters_of Tryz.func71 (by kernel_rfl) rfl⟩
instance : EntC Tryz.prog 72 := ⟨enters_of Tryz.func72 (by kernel_rfl) rfl⟩
instance : EntC Tryz.prog 73 := ⟨enters_of Tryz.func73 (by kernel_rfl) rfl⟩
instance : EntC Tryz.prog 74 := ⟨enters_of Tryz.func74 (by kernel_rfl) rfl⟩
instance : EntC Tryz.prog 75 := ⟨enters_of Tryz.func75 (by kernel_rfl) rfl⟩
instance : EntC Tryz.prog 76 := ⟨enters_of Tryz.func76 (by kernel_rfl) rfl⟩
instance : EntC Tryz.prog 77 := ⟨enters_of Tryz.func77 (by kernel_rfl) rfl⟩
instance : EntC Tryz.prog 78 := ⟨enters_of Tryz.func78 (by kernel_rfl) rfl⟩
instance : EntC Tryz.prog 79 := ⟨enters_of Tryz.func79 (by kernel_rfl) rfl⟩
instance : EntC Tryz.prog 80 := ⟨enters_of Tryz.func80 (by kernel_rfl) rfl⟩
instance : EntC Tryz.prog 81 := ⟨enters_of Tryz.func81 (by kernel_rfl) rfl⟩
instance : EntC Tryz.prog 82 := ⟨enters_of Tryz.func82 (by kernel_rfl) rfl⟩
instance : EntC Tryz.prog 83 := ⟨enters_of Tryz.func83 (by kernel_rfl) rfl⟩
instance : EntC Tryz.prog 84 := ⟨enters_of Tryz.func84 (by kernel_rfl) rfl⟩
instance : EntC Tryz.prog 85 := ⟨enters_of Tryz.func85 (by kernel_rfl) rfl⟩
instance : EntC Tryz.prog 86 := ⟨enters_of Tryz.func86 (by kernel_rfl) rfl⟩
instance : EntC Tryz.prog 87 := ⟨enters_of Tryz.func87 (by kernel_rfl) rfl⟩
instance : EntC Tryz.prog 88 := ⟨enters_of Tryz.func88 (by kernel_rfl) rfl⟩
instance : EntC Tryz.prog 89 := ⟨enters_of Tryz.func89 (by kernel_rfl) rfl⟩
instance : EntC Tryz.prog 90 := ⟨enters_of Tryz.func90 (by kernel_rfl) rfl⟩
instance : EntC Tryz.prog 91 := ⟨enters_of Tryz.func91 (by kernel_rfl) rfl⟩
instance : EntC Tryz.prog 92 := ⟨enters_of Tryz.func92 (by kernel_rfl) rfl⟩
instance : EntC Tryz.prog 93 := ⟨enters_of Tryz.func93 (by kernel_rfl) rfl⟩
instance : EntC Tryz.prog 94 := ⟨enters_of Tryz.func94 (by kernel_rfl) rfl⟩
instance : EntC Tryz.prog 95 := ⟨enters_of Tryz.func95 (by kernel_rfl) rfl⟩
instance : EntC Tryz.prog 96 := ⟨enters_of Tryz.func96 (by kernel_rfl) rfl⟩
instance : EntC Tryz.prog 97 := ⟨enters_of Tryz.func97 (by kernel_rfl) rfl⟩
instance : EntC Tryz.prog 98 := ⟨enters_of Tryz.func98 (by kernel_rfl) rfl⟩
instance : EntC Tryz.prog 99 := ⟨enters_of Tryz.func99 (by kernel_rfl) rfl⟩
instance : EntC Tryz.prog 100 := ⟨enters_of Tryz.func100 (by kernel_rfl) rfl⟩
instance : EntC Tryz.prog 101 := ⟨enters_of Tryz.func101 (by kernel_rfl) rfl⟩
instance : EntC Tryz.prog 102 := ⟨enters_of Tryz.func102 (by kernel_rfl) rfl⟩
instance : EntC Tryz.prog 103 := ⟨enters_of Tryz.func103 (by kernel_rfl) rfl⟩
instance : EntC Tryz.prog 104 := ⟨enters_of Tryz.func104 (by kernel_rfl) rfl⟩
instance : EntC Tryz.prog 105 := ⟨enters_of Tryz.func105 (by kernel_rfl) rfl⟩
instance : EntC Tryz.prog 106 := ⟨enters_of Tryz.func106 (by kernel_rfl) rfl⟩
instance : EntC Tryz.prog 107 := ⟨enters_of Tryz.func107 (by kernel_rfl) rfl⟩
instance : EntC Tryz.prog 108 := ⟨enters_of Tryz.func108 (by kernel_rfl) rfl⟩
instance : EntC Tryz.prog 109 := ⟨enters_of Tryz.func109 (by kernel_rfl) rfl⟩
instance : EntC Tryz.prog 110 := ⟨enters_of Tryz.func110 (by kernel_rfl) rfl⟩
instance : EntC Tryz.prog 111 := ⟨enters_of Tryz.func111 (by kernel_rfl) rfl⟩
instance : EntC Tryz.prog 112 := ⟨enters_of Tryz.func112 (by kernel_rfl) rfl⟩
instance : EntC Tryz.prog 113 := ⟨enters_of Tryz.func113 (by kernel_rfl) rfl⟩
instance : EntC Tryz.prog 114 := ⟨enters_of Tryz.func114 (by kernel_rfl) rfl⟩
instance : EntC Tryz.prog 115 := ⟨enters_of Tryz.func115 (by kernel_rfl) rfl⟩
instance : EntC Tryz.prog 116 := ⟨enters_of Tryz.func116 (by kernel_rfl) rfl⟩
instance : EntC Tryz.prog 117 := ⟨enters_of Tryz.func117 (by kernel_rfl) rfl⟩
instance : EntC Tryz.prog 118 := ⟨enters_of Tryz.func118 (by kernel_rfl) rfl⟩
instance : EntC Tryz.prog 119 := ⟨enters_of Tryz.func119 (by kernel_rfl) rfl⟩
instance : EntC Tryz.prog 120 := ⟨enters_of Tryz.func120 (by kernel_rfl) rfl⟩
instance : EntC Tryz.prog 121 := ⟨enters_of Tryz.func121 (by kernel_rfl) rfl⟩
instance : EntC Tryz.prog 122 := ⟨enters_of Tryz.func122 (by kernel_rfl) rfl⟩
instance : EntC Tryz.prog 123 := ⟨enters_of Tryz.func123 (by kernel_rfl) rfl⟩
instance : EntC Tryz.prog 124 := ⟨enters_of Tryz.func124 (by kernel_rfl) rfl⟩
instance : EntC Tryz.prog 125 := ⟨enters_of Tryz.func125 (by kernel_rfl) rfl⟩
instance : EntC Tryz.prog 126 := ⟨enters_of Tryz.func126 (by kernel_rfl) rfl⟩
instance : EntC Tryz.prog 127 := ⟨enters_of Tryz.func127 (by kernel_rfl) rfl⟩
instance : EntC Tryz.prog 128 := ⟨enters_of Tryz.func128 (by kernel_rfl) rfl⟩
instance : EntC Tryz.prog 129 := ⟨enters_of Tryz.func129 (by kernel_rfl) rfl⟩
instance : EntC Tryz.prog 130 := ⟨enters_of Tryz.func130 (by kernel_rfl) rfl⟩
instance : EntC Tryz.prog 131 := ⟨enters_of Tryz.func131 (by kernel_rfl) rfl⟩
instance : EntC Tryz.prog 132 := ⟨enters_of Tryz.func132 (by kernel_rfl) rfl⟩
instance : EntC Tryz.prog 133 := ⟨enters_of Tryz.func133 (by kernel_rfl) rfl⟩
instance : EntC Tryz.prog 134 := ⟨enters_of Tryz.func134 (by kernel_rfl) rfl⟩
instance : EntC Tryz.prog 135 := ⟨enters_of Tryz.func135 (by kernel_rfl) rfl⟩
instance : EntC Tryz.prog 136 := ⟨enters_of Tryz.func136 (by kernel_rfl) rfl⟩
instance : EntC Tryz.prog 137 := ⟨enters_of Tryz.func137 (by kernel_rfl) rfl⟩
instance : EntC Tryz.prog 138 := ⟨enters_of Tryz.func138 (by kernel_rfl) rfl⟩
instance : EntC Tryz.prog 139 := ⟨enters_of Tryz.func139 (by kernel_rfl) rfl⟩
instance : EntC Tryz.prog 140 := ⟨enters_of Tryz.func140 (by kernel_rfl) rfl⟩
instance : EntC Tryz.prog 141 := ⟨enters_of Tryz.func141 (by kernel_rfl) rfl⟩
instance : EntC Tryz.prog 142 := ⟨enters_of Tryz.func142 (by kernel_rfl) rfl⟩
instance : EntC Tryz.prog 143 := ⟨enters_of Tryz.func143 (by kernel_rfl) rfl⟩
instance : EntC Tryz.prog 144 := ⟨enters_of Tryz.func144 (by kernel_rfl) rfl⟩
instance : EntC Tryz.prog 145 := ⟨enters_of Tryz.func145 (by kernel_rfl) rfl⟩
instance : EntC Tryz.prog 146 := ⟨enters_of Tryz.func146 (by kernel_rfl) rfl⟩
instance : EntC Tryz.prog 147 := ⟨enters_of Tryz.func147 (by kernel_rfl) rfl⟩
instance : EntC Tryz.prog 148 := ⟨enters_of Tryz.func148 (by kernel_rfl) rfl⟩
instance : EntC Tryz.prog 149 := ⟨enters_of Tryz.func149 (by kernel_rfl) rfl⟩
instance : EntC Tryz.prog 150 := ⟨enters_of Tryz.func150 (by kernel_rfl) rfl⟩
instance : EntC Tryz.prog 151 := ⟨enters_of Tryz.func151 (by kernel_rfl) rfl⟩
instance : EntC Tryz.prog 152 := ⟨enters_of Tryz.func152 (by kernel_rfl) rfl⟩
instance : EntC Tryz.prog 153 := ⟨enters_of Tryz.func153 (by kernel_rfl) rfl⟩
instance : EntC Tryz.prog 154 := ⟨enters_of Tryz.func154 (by kernel_rfl) rfl⟩
instance : EntC Tryz.prog 155 := ⟨enters_of Tryz.func155 (by kernel_rfl) rfl⟩
instance : EntC Tryz.prog 156 := ⟨enters_of Tryz.func156 (by kernel_rfl) rfl⟩
instance : EntC Tryz.prog 157 := ⟨enters_of Tryz.func157 (by kernel_rfl) rfl⟩
instance : EntC Tryz.prog 158 := ⟨enters_of Tryz.func158 (by kernel_rfl) rfl⟩
instance : EntC Tryz.prog 159 := ⟨enters_of Tryz.func159 (by kernel_rfl) rfl⟩
instance : EntC Tryz.prog 160 := ⟨enters_of Tryz.func160 (by kernel_rfl) rfl⟩
instance : EntC Tryz.prog 161 := ⟨enters_of Tryz.func161 (by kernel_rfl) rfl⟩
instance : EntC Tryz.prog 162 := ⟨enters_of Tryz.func162 (by kernel_rfl) rfl⟩
instance : EntC Tryz.prog 163 := ⟨enters_of Tryz.func163 (by kernel_rfl) rfl⟩
instance : EntC Tryz.prog 164 := ⟨enters_of Tryz.func164 (by kernel_rfl) rfl⟩
instance : EntC Tryz.prog 165 := ⟨enters_of Tryz.func165 (by kernel_rfl) rfl⟩
instance : EntC Tryz.prog 166 := ⟨enters_of Tryz.func166 (by kernel_rfl) rfl⟩
instance : EntC Tryz.prog 167 := ⟨enters_of Tryz.func167 (by kernel_rfl) rfl⟩
instance : EntC Tryz.prog 168 := ⟨enters_of Tryz.func168 (by kernel_rfl) rfl⟩
instance : EntC Tryz.prog 169 := ⟨enters_of Tryz.func169 (by kernel_rfl) rfl⟩
instance : EntC Tryz.prog 170 := ⟨enters_of Tryz.func170 (by kernel_rfl) rfl⟩
instance : EntC Tryz.prog 171 := ⟨enters_of Tryz.func171 (by kernel_rfl) rfl⟩
instance : EntC Tryz.prog 172 := ⟨enters_of Tryz.func172 (by kernel_rfl) rfl⟩
instance : EntC Tryz.prog 173 := ⟨enters_of Tryz.func173 (by kernel_rfl) rfl⟩
instance : EntC Tryz.prog 174 := ⟨enters_of Tryz.func174 (by kernel_rfl) rfl⟩
instance : EntC Tryz.prog 175 := ⟨enters_of Tryz.func175 (by kernel_rfl) rfl⟩
instance : EntC Tryz.prog 176 := ⟨enters_of Tryz.func176 (by kernel_rfl) rfl⟩
instance : EntC Tryz.prog 177 := ⟨enters_of Tryz.func177 (by kernel_rfl) rfl⟩
instance : EntC Tryz.prog 178 := ⟨enters_of Tryz.func178 (by kernel_rfl) rfl⟩
instance : EntC Tryz.prog 179 := ⟨enters_of Tryz.func179 (by kernel_rfl) rfl⟩
instance : EntC Tryz.prog 180 := ⟨enters_of Tryz.func180 (by kernel_rfl) rfl⟩
instance : EntC Tryz.prog 181 := ⟨enters_of Tryz.func181 (by kernel_rfl) rfl⟩
instance : EntC Tryz.prog 182 := ⟨enters_of Tryz.func182 (by kernel_rfl) rfl⟩
instance : EntC Tryz.prog 183 := ⟨enters_of Tryz.func183 (by kernel_rfl) rfl⟩
instance : EntC Tryz.prog 184 := ⟨enters_of Tryz.func184 (by kernel_rfl) rfl⟩
instance : EntC Tryz.prog 185 := ⟨enters_of Tryz.func185 (by kernel_rfl) rfl⟩
instance : EntC Tryz.prog 186 := ⟨enters_of Tryz.func186 (by kernel_rfl) rfl⟩
instance : EntC Tryz.prog 187 := ⟨enters_of Tryz.func187 (by kernel_rfl) rfl⟩
instance : EntC Tryz.prog 188 := ⟨enters_of Tryz.func188 (by kernel_rfl) rfl⟩
instance : EntC Tryz.prog 189 := ⟨enters_of Tryz.func189 (by kernel_rfl) rfl⟩
instance : EntC Tryz.prog 190 := ⟨enters_of Tryz.func190 (by kernel_rfl) rfl⟩
instance : EntC Tryz.prog 191 := ⟨enters_of Tryz.func191 (by kernel_rfl) rfl⟩
instance : EntC Tryz.prog 192 := ⟨enters_of Tryz.func192 (by kernel_rfl) rfl⟩
instance : EntC Tryz.prog 193 := ⟨enters_of Tryz.func193 (by kernel_rfl) rfl⟩
instance : EntC Tryz.prog 194 := ⟨enters_of Tryz.func194 (by kernel_rfl) rfl⟩
instance : EntC Tryz.prog 195 := ⟨enters_of Tryz.func195 (by kernel_rfl) rfl⟩
instance : EntC Tryz.prog 196 := ⟨enters_of Tryz.func196 (by kernel_rfl) rfl⟩
instance : EntC Tryz.prog 197 := ⟨enters_of Tryz.func197 (by kernel_rfl) rfl⟩
instance : EntC Tryz.prog 198 := ⟨enters_of Tryz.func198 (by kernel_rfl) rfl⟩
instance : EntC Tryz.prog 199 := ⟨enters_of Tryz.func199 (by kernel_rfl) rfl⟩
instance : EntC Tryz.prog 200 := ⟨enters_of Tryz.func200 (by kernel_rfl) rfl⟩
instance : EntC Tryz.prog 201 := ⟨enters_of Tryz.func201 (by kernel_rfl) rfl⟩
instance : EntC Tryz.prog 202 := ⟨enters_of Tryz.func202 (by kernel_rfl) rfl⟩
instance : EntC Tryz.prog 203 := ⟨enters_of Tryz.func203 (by kernel_rfl) rfl⟩
instance : EntC Tryz.prog 204 := ⟨enters_of Tryz.func204 (by kernel_rfl) rfl⟩
instance : EntC Tryz.prog 205 := ⟨enters_of Tryz.func205 (by kernel_rfl) rfl⟩
instance : EntC Tryz.prog 206 := ⟨enters_of Tryz.func206 (by kernel_rfl) rfl⟩
instance : EntC Tryz.prog 207 := ⟨enters_of Tryz.func207 (by kernel_rfl) rfl⟩
instance : EntC Tryz.prog 208 := ⟨enters_of Tryz.func208 (by kernel_rfl) rfl⟩
instance : EntC Tryz.prog 209 := ⟨enters_of Tryz.func209 (by kernel_rfl) rfl⟩
instance : EntC Tryz.prog 210 := ⟨enters_of Tryz.func210 (by kernel_rfl) rfl⟩
instance : EntC Tryz.prog 211 := ⟨enters_of Tryz.func211 (by kernel_rfl) rfl⟩
instance : EntC Tryz.prog 212 := ⟨enters_of Tryz.func212 (by kernel_rfl) rfl⟩
instance : EntC Tryz.prog 213 := ⟨enters_of Tryz.func213 (by kernel_rfl) rfl⟩
instance : EntC Tryz.prog 214 := ⟨enters_of Tryz.func214 (by kernel_rfl) rfl⟩
instance : EntC Tryz.prog 215 := ⟨enters_of Tryz.func215 (by kernel_rfl) rfl⟩
instance : EntC Tryz.prog 216 := ⟨enters_of Tryz.func216 (by kernel_rfl) rfl⟩
instance : EntC Tryz.prog 217 := ⟨enters_of Tryz.func217 (by kernel_rfl) rfl⟩
instance : EntC Tryz.prog 218 := ⟨enters_of Tryz.func218 (by kernel_rfl) rfl⟩
instance : EntC Tryz.prog 219 := ⟨enters_of Tryz.func219 (by kernel_rfl) rfl⟩
instance : EntC Tryz.prog 220 := ⟨enters_of Tryz.func220 (by kernel_rfl) rfl⟩
instance : EntC Tryz.prog 221 := ⟨enters_of Tryz.func221 (by kernel_rfl) rfl⟩
instance : EntC Tryz.prog 222 := ⟨enters_of Tryz.func222 (by kernel_rfl) rfl⟩
instance : EntC Tryz.prog 223 := ⟨enters_of Tryz.func223 (by kernel_rfl) rfl⟩
instance : EntC Tryz.prog 224 := ⟨enters_of Tryz.func224 (by kernel_rfl) rfl⟩
instance : EntC Tryz.prog 225 := ⟨enters_of Tryz.func225 (by kernel_rfl) rfl⟩
instance : EntC Tryz.prog 226 := ⟨enters_of Tryz.func226 (by kernel_rfl) rfl⟩
instance : EntC Tryz.prog 227 := ⟨enters_of Tryz.func227 (by kernel_rfl) rfl⟩
instance : EntC Tryz.prog 228 := ⟨enters_of Tryz.func228 (by kernel_rfl) rfl⟩
instance : EntC Tryz.prog 229 := ⟨enters_of Tryz.func229 (by kernel_rfl) rfl⟩
instance : EntC Tryz.prog 230 := ⟨enters_of Tryz.func230 (by kernel_rfl) rfl⟩
instance : EntC Tryz.prog 231 := ⟨enters_of Tryz.func231 (by kernel_rfl) rfl⟩
theorem mixed : Tryz.prog.follows .mixedOrders = true := by kernel_rfl
end Go.Proofs.YtnoicbajhlpndaaGreat
