/- Reading a law's arguments: what the row says of them, in the words of the logic of heaps. -/
import Derived.Test.YtnoicbajhlpndaaGreatHeapA
import Derived.OpenShut
import Derived.Carry
import Derived.Test.YtnoicbajhlpndaaGreatRows
import Derived.Test.YtnoicbajhlpndaaGreatWorldA
import Derived.ProofKit
import Derived.JoinedCond
import Derived.Test.YtnoicbajhlpndaaGreatStepC
import Derived.Test.YtnoicbajhlpndaaGreatMatC
namespace Go.Proofs.YtnoicbajhlpndaaGreat.Hp
open Go Go.RowKit Go.ChangeShapes Go.WideShapes
set_option linter.unusedVariables false
set_option linter.unusedSimpArgs false
section
variable {H : Type} {enc : TypeId × Value → H} {P : Program} {w : World} {base : Nat} {sp : Nat → Bool} {held : Bool} {t e : TypeId}
/-- A type whose data are k numbers. -/
def Flat {H : Type} (enc : TypeId × Value → H) (P : Program) (w : World) (base : Nat) (sp : Nat → Bool) (held : Bool) (t : TypeId) (k : Nat) : Prop :=
  ∀ (n : Nat) (cs : List Value) (x : DataW H × List MemPlace), DataW.trod enc P w base sp held n t cs = some x → cs.length = k ∧ ∀ c ∈ cs, ∃ m, c = .int .i64 m ∧ (Lit.int .i64 m).wf = true
theorem flat_int (ht : P.underlying t = some (.int .i64)) : Flat enc P w base sp held t 1 := by
  intro n cs x h
  obtain ⟨m, rfl, _, hw⟩ := DataW.trod_int ht h
  exact ⟨rfl, fun c hc => ⟨m, by simpa using hc, hw⟩⟩
theorem flat_array {m k : Nat} (ht : P.underlying t = some (.array m e)) (he : Flat enc P w base sp held e k) (hk : P.cellsOf e = k) (hc : P.cellsOf t = m * k) : Flat enc P w base sp held t (m * k) := by
  intro n cs x h
  obtain ⟨xs, n', rfl, _, hl, hxl, hx⟩ := DataW.trod_array ht h
  rw [hc] at hl
  refine ⟨hl, fun c hcm => ?_⟩
  obtain ⟨j, hj, rfl⟩ := List.mem_iff_getElem.1 hcm
  have hk0 : 0 < k := by rcases Nat.eq_zero_or_pos k with h0 | h0; subst h0; omega; exact h0
  have hi : j / k < m := by rw [Nat.div_lt_iff_lt_mul hk0]; omega
  have h1 := hx (j / k) hi
  rw [List.getElem?_eq_getElem (by omega), hk] at h1
  obtain ⟨_, h2⟩ := he _ _ _ h1
  refine h2 _ ?_
  have hmod := Nat.mod_lt j hk0
  have hdm := Nat.div_add_mod j k
  rw [List.mem_iff_getElem?]
  refine ⟨j % k, ?_⟩
  rw [List.getElem?_take_of_lt hmod, List.getElem?_drop, Nat.mul_comm, hdm, List.getElem?_eq_getElem hj]
/-- A place that a slice points to lies in its block. -/
theorem rowAt_le {fits : TypeId → Bool} {d : Nat} {e : TypeId} {count off n : Nat} (h : rowAt P fits d e count off n = true) : off ≤ count * P.cellsOf e := by
  cases d with
  | zero => simp [rowAt] at h
  | succ d =>
    unfold rowAt at h
    by_cases hs : P.cellsOf e = 0
    · simp [hs] at h
    · simp only [hs, if_false, Bool.or_eq_true, Bool.and_eq_true, decide_eq_true_eq, beq_iff_eq] at h
      have hdm := Nat.div_add_mod off (P.cellsOf e)
      have hml := Nat.mod_lt off (Nat.pos_of_ne_zero hs)
      have key : off / P.cellsOf e + 1 ≤ count ∨ (off % P.cellsOf e = 0 ∧ off / P.cellsOf e ≤ count) := by
        rcases h with ⟨⟨h1, h2⟩, _⟩ | ⟨h1, _⟩
        · exact .inr ⟨h1, by omega⟩
        · exact .inl h1
      rcases key with h1 | ⟨h1, h2⟩
      · have := Nat.mul_le_mul_right (P.cellsOf e) h1
        rw [Nat.add_mul, Nat.one_mul, Nat.mul_comm (off / P.cellsOf e)] at this; omega
      · have := Nat.mul_le_mul_right (P.cellsOf e) h2
        rw [Nat.mul_comm (off / P.cellsOf e)] at this; omega
theorem lies_le {e : TypeId} {count off : Nat} : ∀ {d : Nat} {u : TypeId} {n : Nat}, liesAt P d e count off u n = true → off ≤ count * P.cellsOf e
  | 0, _, _, h => by simp [liesAt] at h
  | d + 1, u, n, h => by
    unfold liesAt at h
    rw [Bool.or_eq_true] at h
    rcases h with h | h
    · exact rowAt_le h
    · split at h
      · exact lies_le h
      · cases h
theorem cells_get {a : Addr} {n : Nat} {cs : List Value} (h : w.cells? base a n = some cs) : cs.length = n ∧ ∀ i, i < n → w.cell? (a.add i) = cs[i]? := by
  unfold World.cells? at h
  split at h
  · exact ⟨by simpa using mapM_some_length h, fun i hi => mapM_some_get h i i (by simp [hi])⟩
  · cases h
theorem cell_at {a : Addr} {v : Value} (h : w.cell? a = some v) : ∃ cells ty fz, w.heap[a.block]? = some (.cells cells ty fz) ∧ cells[a.off]? = some v := by
  unfold World.cell? at h
  split at h
  · rename_i c t f hb
    refine ⟨c, t, f, hb, ?_⟩
    split at h
    · cases h
    · exact h
  · cases h
/-- The number in a cell. -/
def intAt (cells : Array Value) (i : Nat) : Int := match cells[i]? with
  | some (.int _ n) => n
  | _ => 0
theorem in64_wf {n : Int} (h : (Lit.int .i64 n).wf = true) : in64 n := by have := bounds_i64 h; unfold in64; omega
theorem okWide_slice {r : Reach} {b0 : Nat} {v : Value} (ht : P.underlying t = some (.slice e)) (hval : Value.okWide P w r b0 t v) {c : Value} (hc : v.cells.toList = [c]) : v = c := by
  unfold Value.okWide at hval
  rw [ht] at hval
  cases v with
  | agg cs => simp [Cell.okWide, Cell.ok, ht] at hval
  | _ => simpa [Value.cells] using hc
/-- **A slice of rows of numbers**, as an argument. -/
theorem open_rows {r : Reach} {b0 : Nat} {k : Nat} {v : Value} {d : DataW H} {ps : List MemPlace} (ht : P.underlying t = some (.slice e)) (he : Flat enc P w base sp held e k) (hk : P.cellsOf e = k) (hk0 : 0 < k)
    (hval : Value.okWide P w r b0 t v) (hd : DataW.Trod enc P w base sp held t v d ps) :
    ∃ es : List (List PV), (∀ imm : Nat → Prop, (∀ b, b < w.heap.size → imm b) → RelP w.heap imm (.vs es false) v) ∧ (∀ x ∈ es, x.length = k ∧ ∀ c ∈ x, ∃ m, c = pI m ∧ in64 m) ∧
      ((d = .nil ∧ es = []) ∨ ∃ l r, d = .slice l r ∧ l.length = es.length) := by
  obtain ⟨fuel, hf⟩ := hd
  rcases DataW.trod_slice ht hf with ⟨hc, hx⟩ | ⟨a, len, cap, elems, rest, n, rfl, hc, hx, hb, hlc, hcap, hel, hall, -, -⟩
  · obtain rfl := okWide_slice ht hval hc
    simp only [Prod.mk.injEq] at hx
    exact ⟨[], fun imm _ => .nil false, by simp, .inl ⟨hx.1, rfl⟩⟩
  · obtain rfl := okWide_slice ht hval hc
    simp only [Prod.mk.injEq] at hx
    have hok : World.has P w r b0 a e cap := by
      have := hval
      simp only [Value.okWide, ht, Cell.okWide, Cell.ok] at this
      exact this.2.2
    obtain ⟨_, hspot, row, ncells, hsh, hlies⟩ := hok
    obtain ⟨cells, fz, hblk, hcs⟩ : ∃ cells fz, w.heap[a.block]? = some (.cells cells row fz) ∧ cells.size = ncells := by
      unfold World.shape? at hsh
      split at hsh
      · rename_i c el f hb; simp only [Option.some.injEq, Prod.mk.injEq] at hsh; exact ⟨c, f, by rw [hb, hsh.1], hsh.2⟩
      · cases hsh
    have hoff : a.off ≤ cells.size := by
      have := lies_le hlies
      have h2 := Nat.div_mul_le_self ncells (P.cellsOf row)
      omega
    have hlt : a.block < w.heap.size := (Array.getElem?_eq_some_iff.1 hblk).1
    -- each element
    have hel1 : ∀ i, i < len → ∀ j, j < k → ∃ m, cells[a.off + i * k + j]? = some (.int .i64 m) ∧ in64 m := by
      intro i hi j hj
      have h1 := hall i hi
      rw [List.getElem?_eq_getElem (by omega), hk] at h1
      obtain ⟨cs, h2, h3⟩ := Option.bind_eq_some_iff.1 h1
      obtain ⟨h4, h5⟩ := cells_get h2
      obtain ⟨_, h6⟩ := he _ _ _ h3
      obtain ⟨m, h7, h8⟩ := h6 cs[j] (List.getElem_mem _)
      have h9 := h5 j hj
      rw [List.getElem?_eq_getElem (by omega), h7] at h9
      obtain ⟨c', ty', fz', g1, g2⟩ := cell_at h9
      have e1 : ((a.add (i * k)).add j).block = a.block := by simp only [Addr.add]; split <;> (try split) <;> rfl
      have e2 : ((a.add (i * k)).add j).off = a.off + i * k + j := by simp only [Addr.add]; split <;> split <;> simp_all
      rw [e1, hblk] at g1; cases g1
      rw [e2] at g2
      exact ⟨m, g2, in64_wf h8⟩
    have hsz : a.off + len * k ≤ cells.size := by
      rcases Nat.eq_zero_or_pos len with h0 | h0
      · subst h0; simpa using hoff
      · obtain ⟨m, h1, _⟩ := hel1 (len - 1) (by omega) (k - 1) (by omega)
        have := (Array.getElem?_eq_some_iff.1 h1).1
        have h3 : (len - 1) * k + k = len * k := by rw [← Nat.succ_mul]; congr 1; omega
        omega
    refine ⟨(List.range len).map fun i => (List.range k).map fun j => pI (intAt cells (a.off + i * k + j)), fun imm himm => ?_, ?_, .inr ⟨_, _, hx.1, by simp [hel]⟩⟩
    · have ha : a = ⟨a.block, a.off, none⟩ := by cases a; simp_all
      have hl : ((List.range len).map fun i => (List.range k).map fun j => pI (intAt cells (a.off + i * k + j))).length = len := by simp
      have := RelP.vs (hp := w.heap) (imm := imm) ((List.range len).map fun i => (List.range k).map fun j => pI (intAt cells (a.off + i * k + j))) false a.block a.off k cap cells row fz hblk (himm _ hlt) (by simp) (by rw [hl]; exact hlc) (by rw [hl]; exact hsz)
        (by intro e' he'; obtain ⟨i, _, rfl⟩ := List.mem_map.1 he'; simp) (fun i j e' c v hi hj hv => by
          rw [List.getElem?_map] at hi
          obtain ⟨i', hi', rfl⟩ := Option.map_eq_some_iff.1 hi
          obtain ⟨hi1, rfl⟩ := List.getElem?_eq_some_iff.1 hi'
          rw [List.getElem?_map] at hj
          obtain ⟨j', hj', rfl⟩ := Option.map_eq_some_iff.1 hj
          obtain ⟨hj1, rfl⟩ := List.getElem?_eq_some_iff.1 hj'
          simp only [List.getElem_range, List.length_range] at hi1 hj1 ⊢
          obtain ⟨m, hm, _⟩ := hel1 i hi1 j hj1
          rw [hm] at hv; cases hv
          simp only [intAt, hm]; exact .raw _)
      rw [hl, ← ha] at this; exact this
    · intro x hx
      obtain ⟨i, hi, rfl⟩ := List.mem_map.1 hx
      refine ⟨by simp, fun c hc => ?_⟩
      obtain ⟨j, hj, rfl⟩ := List.mem_map.1 hc
      obtain ⟨m, hm, hm2⟩ := hel1 i (List.mem_range.1 hi) j (List.mem_range.1 hj)
      exact ⟨_, rfl, by simp only [intAt, hm]; exact hm2⟩
/-- **A row of numbers**, as an argument. -/
theorem open_row {r : Reach} {b0 : Nat} {k : Nat} {v : Value} {d : DataW H} {ps : List MemPlace} (he : Flat enc P w base sp held t k) (ht : (∃ m e, P.underlying t = some (.array m e)) ∨ ∃ fs, P.underlying t = some (.struct fs))
    (hval : Value.okWide P w r b0 t v) (hd : DataW.Trod enc P w base sp held t v d ps) :
    ∃ l : List Int, l.length = k ∧ (∀ n ∈ l, in64 n) ∧ ∀ imm : Nat → Prop, RelA w.heap imm (.agg (l.map I)) v := by
  obtain ⟨cs, rfl⟩ : ∃ cs, v = .agg cs := by
    unfold Value.okWide at hval
    obtain ⟨m, e, ht⟩ | ⟨fs, ht⟩ := ht <;> (rw [ht] at hval; obtain ⟨cs, h, _⟩ := hval; exact ⟨cs, h⟩)
  obtain ⟨fuel, hf⟩ := hd
  obtain ⟨h1, h2⟩ := he _ _ _ hf
  simp only [Value.cells] at h1 h2
  refine ⟨cs.toList.map fun c => match c with | .int _ n => n | _ => 0, by simpa using h1, fun n hn => ?_, fun imm => .agg _ _ (by simp) fun i c v hc hv => ?_⟩
  · obtain ⟨c, hc, rfl⟩ := List.mem_map.1 hn
    obtain ⟨m, rfl, hw⟩ := h2 c hc
    exact in64_wf hw
  · have hm : v ∈ cs.toList := by rw [← Array.getElem?_toList] at hv; exact List.mem_of_getElem? hv
    obtain ⟨m, rfl, hw⟩ := h2 v hm
    rw [List.map_map, List.getElem?_map, Array.getElem?_toList, hv] at hc
    cases hc
    exact .p (.raw _)
end
end Go.Proofs.YtnoicbajhlpndaaGreat.Hp
/- Rows of laws: what all of them need. -/
namespace Go.Proofs.YtnoicbajhlpndaaGreat.row
open Go Go.ChangeShapes Go.WideShapes Go.ChangeAt Go.RowKit Hp
set_option linter.unusedVariables false
set_option linter.unusedSimpArgs false
set_option maxRecDepth 100000
set_option maxHeartbeats 1000000

theorem own : ownKnob Tryz.prog.godebug = none := by kernel_rfl
theorem laid : laidOutB Tryz.prog = true := by kernel_rfl
/-- Nothing is set aside. -/
def X0 : Ctx := ⟨fun _ => False, fun _ _ => True, fun _ _ _ _ _ h => h⟩
theorem holds0 (w : World) : Holds X0 [] w := ⟨List.nodup_nil, by simp, fun b h => h.elim, trivial, by simp⟩
theorem len1 {l : List Int} (h : l.length = 3) : l = [l.getD 0 0, l.getD 1 0, l.getD 2 0] := by
  match l, h with
  | [a, b, c], _ => rfl
theorem len7 {l : List Int} (h : l.length = 7) : l = [l.getD 0 0, l.getD 1 0, l.getD 2 0, l.getD 3 0, l.getD 4 0, l.getD 5 0, l.getD 6 0] := by
  match l, h with
  | [a, b, c, d, e, f, g], _ => rfl
theorem in_getD {l : List Int} (h : ∀ n ∈ l, in64 n) (i : Nat) (hi : i < l.length) : in64 (l.getD i 0) := h _ (by rw [List.getD_eq_getElem?_getD, List.getElem?_eq_getElem hi]; exact List.getElem_mem hi)
/-- Rows of three numbers. -/
theorem rows3 : ∀ (es : List (List PV)), (∀ x ∈ es, x.length = 3 ∧ ∀ c ∈ x, ∃ m, c = pI m ∧ in64 m) → ∃ x : List T3, es = x.map enc3 ∧ x.length = es.length ∧ ∀ p ∈ x, in64 p.1 ∧ in64 p.2.1 ∧ in64 p.2.2
  | [], _ => ⟨[], rfl, rfl, by simp⟩
  | e :: es, h => by
    obtain ⟨x, hx, hl, hin⟩ := rows3 es fun y hy => h y (List.mem_cons_of_mem _ hy)
    obtain ⟨he, hc⟩ := h e List.mem_cons_self
    match e, he with
    | [a, b, c], _ =>
      obtain ⟨m1, rfl, g1⟩ := hc a (by simp)
      obtain ⟨m2, rfl, g2⟩ := hc b (by simp)
      obtain ⟨m3, rfl, g3⟩ := hc c (by simp)
      exact ⟨(m1, m2, m3) :: x, by rw [hx]; rfl, by simp [hl], fun p hp => by
        rcases List.mem_cons.1 hp with rfl | hp
        · exact ⟨g1, g2, g3⟩
        · exact hin p hp⟩
theorem ok3_of {x : List T3} (h : ∀ p ∈ x, in64 p.1 ∧ in64 p.2.1 ∧ in64 p.2.2) : ok3 x := fun k hk => h _ (by rw [List.getD_eq_getElem?_getD, List.getElem?_eq_getElem hk]; exact List.getElem_mem hk)

theorem bulk_one {H : Type} (d : DataW H) : 1 ≤ Rows.uptoBulk d := by
  cases d with
  | lit l => cases l <;> simp [Rows.uptoBulk]
  | nil => simp [Rows.uptoBulk]
  | ptr d => simp [Rows.uptoBulk]
  | slice elems spare => simp [Rows.uptoBulk]
  | agg parts => simp [Rows.uptoBulk]
  | iface t d => simp [Rows.uptoBulk]
  | map entries => simp [Rows.uptoBulk]
  | held h => simp [Rows.uptoBulk]
theorem bulk_len {H : Type} (l : List (DataW H)) : l.length ≤ Rows.uptoBulkAll l := by
  induction l with
  | nil => simp [Rows.uptoBulkAll]
  | cons x r ih => have := bulk_one x; simp only [Rows.uptoBulkAll, List.length_cons]; omega
theorem bulk_part {H : Type} {d : DataW H} {l : List (DataW H)} (h : d ∈ l) : Rows.uptoBulk d ≤ Rows.uptoBulkAll l := by
  induction l with
  | nil => cases h
  | cons x r ih =>
    simp only [Rows.uptoBulkAll]
    rcases List.mem_cons.1 h with e | e
    · subst e; omega
    · have := ih e; omega
theorem small_of {H : Type} {es : List (List PV)} {d : DataW H} {l : List (DataW H)} (hd : (d = .nil ∧ es = []) ∨ ∃ a b, d = .slice a b ∧ a.length = es.length) (hm : d ∈ l) (hk : Rows.uptoSmall H l = true) : es.length ≤ 1000000000 := by
  have h1 := bulk_part hm
  have h2 : Rows.uptoBulkAll l ≤ 1048576 := by simpa [Rows.uptoSmall] using hk
  obtain ⟨_, rfl⟩ | ⟨a, b, rfl, h3⟩ := hd
  · simp
  · have h4 := bulk_len a
    simp only [Rows.uptoBulk] at h1; omega

/-- An argument that is read again behind the call. -/
theorem again {H : Type} {enc : TypeId × Value → H} {W W' : World} {all : List MemPlace} {sp : Nat → Bool} (hb : Below W.heap.size W W') (hlt : ∀ z ∈ all, z.block < W.heap.size) (hsp : ∀ z ∈ all, sp z.block = true) {t : TypeId} {v : Value} {d : DataW H} {ps : List MemPlace}
    (hr : Tryz.prog.readableRec t = true) (hrow : t < Tryz.prog.types.size) (h : DataW.Trod enc Tryz.prog W 0 (fun _ => true) true t v d ps) (hm : ∀ z ∈ ps, z ∈ all) : DataW.Trod enc Tryz.prog W' 0 sp true t v d ps :=
  WideElems.Trod_stays laid hr hrow h (fun z hz => hb.same (hlt z (hm z hz))) (fun z hz => hsp z (hm z hz))
end Go.Proofs.YtnoicbajhlpndaaGreat.row
/- Rows of seven numbers. -/
namespace Go.Proofs.YtnoicbajhlpndaaGreat.row
open Go Go.ChangeShapes Go.WideShapes Go.ChangeAt Go.RowKit Hp
theorem rows7 : ∀ (es : List (List PV)), (∀ x ∈ es, x.length = 7 ∧ ∀ c ∈ x, ∃ m, c = pI m ∧ in64 m) → ∃ x : List T7, es = x.map enc7 ∧ x.length = es.length ∧ ∀ p ∈ x, in64 p.y0 ∧ in64 p.y1 ∧ in64 p.y2 ∧ in64 p.y3 ∧ in64 p.y4 ∧ in64 p.y5 ∧ in64 p.y6
  | [], _ => ⟨[], rfl, rfl, by simp⟩
  | e :: es, h => by
    obtain ⟨x, hx, hl, hin⟩ := rows7 es fun y hy => h y (List.mem_cons_of_mem _ hy)
    obtain ⟨he, hc⟩ := h e List.mem_cons_self
    match e, he with
    | [a, b, c, d, f, g, k], _ =>
      obtain ⟨m1, rfl, g1⟩ := hc a (by simp)
      obtain ⟨m2, rfl, g2⟩ := hc b (by simp)
      obtain ⟨m3, rfl, g3⟩ := hc c (by simp)
      obtain ⟨m4, rfl, g4⟩ := hc d (by simp)
      obtain ⟨m5, rfl, g5⟩ := hc f (by simp)
      obtain ⟨m6, rfl, g6⟩ := hc g (by simp)
      obtain ⟨m7, rfl, g7⟩ := hc k (by simp)
      exact ⟨⟨m1, m2, m3, m4, m5, m6, m7⟩ :: x, by rw [hx]; rfl, by simp [hl], fun p hp => by
        rcases List.mem_cons.1 hp with rfl | hp
        · exact ⟨g1, g2, g3, g4, g5, g6, g7⟩
        · exact hin p hp⟩
theorem ok7_of {x : List T7} (h : ∀ p ∈ x, in64 p.y0 ∧ in64 p.y1 ∧ in64 p.y2 ∧ in64 p.y3 ∧ in64 p.y4 ∧ in64 p.y5 ∧ in64 p.y6) : ok7 x := fun k hk => h _ (by rw [List.getD_eq_getElem?_getD, List.getElem?_eq_getElem hk]; exact List.getElem_mem hk)
end Go.Proofs.YtnoicbajhlpndaaGreat.row
/- Rows of structs of numbers: events, debts. -/
namespace Go.Proofs.YtnoicbajhlpndaaGreat.row
open Go Go.ChangeShapes Go.WideShapes Go.ChangeAt Go.RowKit Hp
theorem flat_struct {H : Type} {enc : TypeId × Value → H} {P : Program} {w : World} {base : Nat} {sp : Nat → Bool} {held : Bool} {t : TypeId} {fs : Array Field} {k : Nat} (ht : P.underlying t = some (.struct fs)) (hc : P.cellsOf t = k) (ts : List TypeId) (hts : ∀ t ∈ ts, Flat enc P w base sp held t (P.cellsOf t))
    (hf : (fs.toList.all fun f => ts.any fun t => Nat.beq f.type t) = true) (hcov : ((List.range k).all fun j => fs.toList.any fun f => Nat.ble f.offset j && Nat.ble (j + 1) (f.offset + P.cellsOf f.type)) = true) : Flat enc P w base sp held t k := by
  intro n cs x h
  obtain ⟨xs, n', rfl, _, hl, hxl, hx⟩ := DataW.trod_struct ht h
  rw [hc] at hl
  refine ⟨hl, fun c hcm => ?_⟩
  obtain ⟨j, hj, rfl⟩ := List.mem_iff_getElem.1 hcm
  have h0 := List.all_eq_true.1 hcov j (List.mem_range.2 (by omega))
  obtain ⟨f, hfm, hfj⟩ := List.any_eq_true.1 h0
  simp only [Bool.and_eq_true] at hfj
  have h1 := Nat.le_of_ble_eq_true hfj.1
  have h2 := Nat.le_of_ble_eq_true hfj.2
  obtain ⟨i, hi, hie⟩ := List.mem_iff_getElem.1 hfm
  have hfi : fs[i]? = some f := by rw [← Array.getElem?_toList, List.getElem?_eq_getElem hi, hie]
  have h3 := hx i f hfi
  have hil : i < xs.length := by rw [hxl]; simpa using hi
  rw [List.getElem?_eq_getElem hil] at h3
  obtain ⟨t', ht', hte⟩ := List.any_eq_true.1 (List.all_eq_true.1 hf f hfm)
  have hte' : f.type = t' := Nat.eq_of_beq_eq_true hte
  obtain ⟨_, h4⟩ := hts t' ht' n' _ _ (by rw [← hte']; exact h3)
  refine h4 _ ?_
  rw [List.mem_iff_getElem]
  refine ⟨j - f.offset, by simp; omega, ?_⟩
  simp only [List.getElem_take, List.getElem_drop]
  congr 1; omega
theorem rowsE : ∀ (es : List (List PV)), (∀ x ∈ es, x.length = 8 ∧ ∀ c ∈ x, ∃ m, c = pI m ∧ in64 m) → ∃ x : List Ev, es = x.map encV ∧ x.length = es.length
  | [], _ => ⟨[], rfl, rfl⟩
  | e :: es, h => by
    obtain ⟨x, hx, hl⟩ := rowsE es fun y hy => h y (List.mem_cons_of_mem _ hy)
    obtain ⟨he, hc⟩ := h e List.mem_cons_self
    match e, he with
    | [a, b, c, d, f, g, k, o], _ =>
      obtain ⟨m1, rfl, _⟩ := hc a (by simp)
      obtain ⟨m2, rfl, _⟩ := hc b (by simp)
      obtain ⟨m3, rfl, _⟩ := hc c (by simp)
      obtain ⟨m4, rfl, _⟩ := hc d (by simp)
      obtain ⟨m5, rfl, _⟩ := hc f (by simp)
      obtain ⟨m6, rfl, _⟩ := hc g (by simp)
      obtain ⟨m7, rfl, _⟩ := hc k (by simp)
      obtain ⟨m8, rfl, _⟩ := hc o (by simp)
      exact ⟨⟨m1, m2, m3, m4, m5, m6, m7, m8⟩ :: x, by rw [hx]; rfl, by simp [hl]⟩
theorem rowsD : ∀ (es : List (List PV)), (∀ x ∈ es, x.length = 3 ∧ ∀ c ∈ x, ∃ m, c = pI m ∧ in64 m) → ∃ x : List Dbt, es = x.map encD ∧ x.length = es.length
  | [], _ => ⟨[], rfl, rfl⟩
  | e :: es, h => by
    obtain ⟨x, hx, hl⟩ := rowsD es fun y hy => h y (List.mem_cons_of_mem _ hy)
    obtain ⟨he, hc⟩ := h e List.mem_cons_self
    match e, he with
    | [a, b, c], _ =>
      obtain ⟨m1, rfl, _⟩ := hc a (by simp)
      obtain ⟨m2, rfl, _⟩ := hc b (by simp)
      obtain ⟨m3, rfl, _⟩ := hc c (by simp)
      exact ⟨⟨m1, m2, m3⟩ :: x, by rw [hx]; rfl, by simp [hl]⟩
end Go.Proofs.YtnoicbajhlpndaaGreat.row
/- The row of MergeMatchesReference: for whatever input of bulk at most 1048576 the call returns true and leaves its arguments as they were. -/
namespace Go.Proofs.YtnoicbajhlpndaaGreat.mergeMatchesReference
open Go Go.ChangeShapes Go.WideShapes Go.ChangeAt Go.RowKit Hp row
set_option linter.unusedVariables false
set_option linter.unusedSimpArgs false
set_option maxRecDepth 100000
set_option maxHeartbeats 1000000

theorem contract (H : Type) (enc : TypeId × Value → H) (W : World) (base : Nat) (args : Array Value) (ds gs : List (DataW H)) (before : List MemPlace)
    (hval : ∀ (j : Nat) t v, Tryz.f3.params[j]? = some t → args[j]? = some v → Value.okWide Tryz.prog W .any base t v)
    (hW : DataW.Whole enc Tryz.prog Tryz.f3.params.toList Rows.mergeMatchesReferenceSpec.vars false W args.toList ds gs before) (hk : Rows.uptoSmall H (ds ++ gs) = true) :
    Calls Tryz.prog 3 args W fun e W' => ∃ v, e = .returned v ∧ Rows.mergeMatchesReferenceSpec.post enc Tryz.prog Tryz.f3 false true false false W args v W' := by
  have hW' := hW
  obtain ⟨p, q, hA0, hV, rfl, hfz, hnd⟩ := hW
  have hA : DataW.TrodAll enc Tryz.prog W 0 (fun _ => true) true Tryz.f3.params.toList args.toList ds p := hA0
  rw [Tryz.params3] at hA hval
  obtain ⟨v0, vs0, d0, ds0, p0, q0, hargs, rfl, rfl, h0, r0⟩ := trodAll_cons hA
  obtain ⟨v1, vs1, d1, ds1, p1, q1, rfl, rfl, rfl, h1, r1⟩ := trodAll_cons r0
  obtain ⟨v2, vs2, d2, ds2, p2, q2, rfl, rfl, rfl, h2, r2⟩ := trodAll_cons r1
  obtain ⟨v3, vs3, d3, ds3, p3, q3, rfl, rfl, rfl, h3, r3⟩ := trodAll_cons r2
  obtain ⟨v4, vs4, d4, ds4, p4, q4, rfl, rfl, rfl, h4, r4⟩ := trodAll_cons r3
  obtain ⟨v5, vs5, d5, ds5, p5, q5, rfl, rfl, rfl, h5, r5⟩ := trodAll_cons r4
  obtain ⟨v6, vs6, d6, ds6, p6, q6, rfl, rfl, rfl, h6, r6⟩ := trodAll_cons r5
  obtain ⟨v7, vs7, d7, ds7, p7, q7, rfl, rfl, rfl, h7, r7⟩ := trodAll_cons r6
  obtain ⟨v8, vs8, d8, ds8, p8, q8, rfl, rfl, rfl, h8, r8⟩ := trodAll_cons r7
  obtain ⟨rfl, rfl, rfl⟩ := trodAll_nil r8
  obtain rfl : args = #[v0, v1, v2, v3, v4, v5, v6, v7, v8] := by cases args; simp_all
  obtain ⟨rfl, rfl⟩ := trodVars_none hV
  have fi : ∀ {base : Nat}, Flat enc Tryz.prog W base (fun _ => true) true 3 1 := flat_int Tryz.underlying3
  have f3 : Flat enc Tryz.prog W 0 (fun _ => true) true 22 (3 * 1) := flat_array Tryz.underlying22 fi (by kernel_rfl) (by kernel_rfl)
  have f7 : Flat enc Tryz.prog W 0 (fun _ => true) true 26 (7 * 1) := flat_array Tryz.underlying26 fi (by kernel_rfl) (by kernel_rfl)
  have fI : Flat enc Tryz.prog W 0 (fun _ => true) true 3 (Tryz.prog.cellsOf 3) := by have e : Tryz.prog.cellsOf 3 = 1 := (by kernel_rfl); rw [e]; exact fi
  have fR : Flat enc Tryz.prog W 0 (fun _ => true) true 39 (Tryz.prog.cellsOf 39) := flat_struct Tryz.underlying39 rfl [3] (fun t ht => by simp only [List.mem_cons, List.not_mem_nil, or_false] at ht; subst ht; exact fI) (by kernel_rfl) (by kernel_rfl)
  have fE : Flat enc Tryz.prog W 0 (fun _ => true) true 41 8 := flat_struct Tryz.underlying41 (by kernel_rfl) [3, 39] (fun t ht => by simp only [List.mem_cons, List.not_mem_nil, or_false] at ht; rcases ht with rfl | rfl; exact fI; exact fR) (by kernel_rfl) (by kernel_rfl)
  have fD : Flat enc Tryz.prog W 0 (fun _ => true) true 114 3 := flat_struct Tryz.underlying114 (by kernel_rfl) [3] (fun t ht => by simp only [List.mem_cons, List.not_mem_nil, or_false] at ht; subst ht; exact fI) (by kernel_rfl) (by kernel_rfl)
  obtain ⟨l0, hl0, hi0, rr0⟩ := open_row f3 (.inl ⟨_, _, Tryz.underlying22⟩) (hval 0 _ v0 rfl rfl) h0
  obtain ⟨e1, re1, ok1, hd1⟩ := open_rows Tryz.underlying23 f3 (by kernel_rfl) (by omega) (hval 1 _ v1 rfl rfl) h1
  obtain ⟨e2, re2, ok2, hd2⟩ := open_rows Tryz.underlying23 f3 (by kernel_rfl) (by omega) (hval 2 _ v2 rfl rfl) h2
  obtain ⟨e3, re3, ok3, hd3⟩ := open_rows Tryz.underlying24 f7 (by kernel_rfl) (by omega) (hval 3 _ v3 rfl rfl) h3
  obtain ⟨l4, hl4, hi4, rr4⟩ := open_row f3 (.inl ⟨_, _, Tryz.underlying22⟩) (hval 4 _ v4 rfl rfl) h4
  obtain ⟨e5, re5, ok5, hd5⟩ := open_rows Tryz.underlying25 fE (by kernel_rfl) (by omega) (hval 5 _ v5 rfl rfl) h5
  obtain ⟨l6, hl6, hi6, rr6⟩ := open_row f7 (.inl ⟨_, _, Tryz.underlying26⟩) (hval 6 _ v6 rfl rfl) h6
  obtain ⟨a7, hv7, _, _, wf7⟩ := open_int Tryz.underlying3 (hval 7 _ v7 rfl rfl) h7
  obtain ⟨e8, re8, ok8, hd8⟩ := open_rows Tryz.underlying27 fD (by kernel_rfl) (by omega) (hval 8 _ v8 rfl rfl) h8
  subst hv7
  have sm1 := small_of hd1 (l := [d0, d1, d2, d3, d4, d5, d6, d7, d8] ++ []) (by simp) hk
  obtain ⟨x1, rfl, hxl1, hx1⟩ := rows3 e1 ok1
  have sm2 := small_of hd2 (l := [d0, d1, d2, d3, d4, d5, d6, d7, d8] ++ []) (by simp) hk
  obtain ⟨x2, rfl, hxl2, hx2⟩ := rows3 e2 ok2
  have sm3 := small_of hd3 (l := [d0, d1, d2, d3, d4, d5, d6, d7, d8] ++ []) (by simp) hk
  obtain ⟨x3, rfl, hxl3, hx3⟩ := rows7 e3 ok3
  have sm5 := small_of hd5 (l := [d0, d1, d2, d3, d4, d5, d6, d7, d8] ++ []) (by simp) hk
  obtain ⟨x5, rfl, hxl5⟩ := rowsE e5 ok5
  have sm8 := small_of hd8 (l := [d0, d1, d2, d3, d4, d5, d6, d7, d8] ++ []) (by simp) hk
  obtain ⟨x8, rfl, hxl8⟩ := rowsD e8 ok8
  have g := mergeMatchesReference_spec (l0.getD 0 0) (l0.getD 1 0) (l0.getD 2 0) (in_getD hi0 0 (by omega)) (in_getD hi0 1 (by omega)) (in_getD hi0 2 (by omega)) x1 (by omega) (ok3_of hx1) false x2 (by omega) (ok3_of hx2) false x3 (by omega) (ok7_of hx3) false (l4.getD 0 0) (l4.getD 1 0) (l4.getD 2 0) (in_getD hi4 0 (by omega)) (in_getD hi4 1 (by omega)) (in_getD hi4 2 (by omega)) x5 (by omega) false (l6.getD 0 0) (l6.getD 1 0) (l6.getD 2 0) (l6.getD 3 0) (l6.getD 4 0) (l6.getD 5 0) (l6.getD 6 0) (in_getD hi6 0 (by omega)) (in_getD hi6 1 (by omega)) (in_getD hi6 2 (by omega)) (in_getD hi6 3 (by omega)) (in_getD hi6 4 (by omega)) (in_getD hi6 5 (by omega)) (in_getD hi6 6 (by omega)) x8 (by omega) false a7 (in64_wf wf7)
  have hc := g X0 W #[v0, v1, v2, v3, v4, v5, v6, .int .i64 a7, v8] (holds0 W) (by
    have q0 := rr0 (Imm X0 [] W); rw [len1 hl0] at q0
    have q4 := rr4 (Imm X0 [] W); rw [len1 hl4] at q4
    have q6 := rr6 (Imm X0 [] W); rw [len7 hl6] at q6
    have him : ∀ b, b < W.heap.size → Imm X0 [] W b := fun b hb => ⟨hb, by simp, fun h => h.elim⟩
    refine ⟨rfl, fun i c v hc hv => ?_⟩
    match i with
    | 0 => cases hc; cases hv; exact q0
    | 1 => cases hc; cases hv; exact .p (re1 _ him)
    | 2 => cases hc; cases hv; exact .p (re2 _ him)
    | 3 => cases hc; cases hv; exact .p (re3 _ him)
    | 4 => cases hc; cases hv; exact q4
    | 5 => cases hc; cases hv; exact .p (re5 _ him)
    | 6 => cases hc; cases hv; exact q6
    | 7 => cases hc; cases hv; exact .p (.raw _)
    | 8 => cases hc; cases hv; exact .p (re8 _ him)
    | i + 9 => cases hc)
  refine hc.mono fun e W' ⟨E, h', ⟨r, hE, hr1, hh1⟩, hr, hh, hx'⟩ => ?_
  subst hE; subst hr1; subst hh1
  cases hr with
  | ret hr =>
  cases hr with
  | p hp =>
  cases hp
  have hbelow := hx'.below
  have hlt : ∀ z ∈ p0 ++ (p1 ++ (p2 ++ (p3 ++ (p4 ++ (p5 ++ (p6 ++ (p7 ++ (p8 ++ ([]))))))))), z.block < W.heap.size := fun z hz => hW'.lt z (by simpa using hz)
  exact ⟨_, rfl, post_of_same (pa := p0 ++ (p1 ++ (p2 ++ (p3 ++ (p4 ++ (p5 ++ (p6 ++ (p7 ++ (p8 ++ ([])))))))))) (pv := []) hW' (fun _ _ _ => (trodAll_cons_mk (shut_bool Tryz.underlying4 _) trodAll_mk0))
    (fun sp hsp => by
      have hs := fun {t : TypeId} {v : Value} {d : DataW H} {ps : List MemPlace} => again (enc := enc) (t := t) (v := v) (d := d) (ps := ps) hbelow hlt (fun z hz => hsp z (by simpa using hz))
      exact trodAll_cons_mk (hs (by kernel_rfl) (of_decide_eq_true (by kernel_rfl)) h0 (fun z hz => by simp [hz])) (trodAll_cons_mk (hs (by kernel_rfl) (of_decide_eq_true (by kernel_rfl)) h1 (fun z hz => by simp [hz])) (trodAll_cons_mk (hs (by kernel_rfl) (of_decide_eq_true (by kernel_rfl)) h2 (fun z hz => by simp [hz])) (trodAll_cons_mk (hs (by kernel_rfl) (of_decide_eq_true (by kernel_rfl)) h3 (fun z hz => by simp [hz])) (trodAll_cons_mk (hs (by kernel_rfl) (of_decide_eq_true (by kernel_rfl)) h4 (fun z hz => by simp [hz])) (trodAll_cons_mk (hs (by kernel_rfl) (of_decide_eq_true (by kernel_rfl)) h5 (fun z hz => by simp [hz])) (trodAll_cons_mk (hs (by kernel_rfl) (of_decide_eq_true (by kernel_rfl)) h6 (fun z hz => by simp [hz])) (trodAll_cons_mk (hs (by kernel_rfl) (of_decide_eq_true (by kernel_rfl)) h7 (fun z hz => by simp [hz])) (trodAll_cons_mk (hs (by kernel_rfl) (of_decide_eq_true (by kernel_rfl)) h8 (fun z hz => by simp [hz])) (trodAll_mk0)))))))))) (fun _ _ => rfl) (by simp)
    (hbelow.frame _) (fun a => by rw [frozen_fzO, frozen_fzO]; exact hx'.fz _ _) (ok_one (by kernel_rfl) rfl (okWide_bool_mk Tryz.underlying4 _))⟩

theorem lifted (os : Os) (started : os.Started) (H : Type) (enc : TypeId × Value → H) (F : Stop.Interp) :
    ReturnsInHanded {} Tryz.checked os 3 .any ((Rows.OpenSpec.upto Rows.mergeMatchesReferenceSpec).pre6 enc Tryz.prog Tryz.f3 Rows.mergeMatchesReferenceUptoRow.domain false) (((Rows.OpenSpec.upto Rows.mergeMatchesReferenceSpec).at F).post enc Tryz.prog Tryz.f3 false true false false) := by
  refine returnsInHanded_of_cond (C := Tryz.checked) (s := Rows.OpenSpec.upto Rows.mergeMatchesReferenceSpec) (k := Rows.uptoSmall) rfl own started (by kernel_rfl) Tryz.func3
    (OpenSpec.witness (enc := enc) (C := Tryz.checked) (s := Rows.OpenSpec.upto Rows.mergeMatchesReferenceSpec) (k := Rows.uptoSmall) rfl false
      ⟨#[], #[.agg #[.int .i64 0, .int .i64 0, .int .i64 0], .slice none 0 0, .slice none 0 0, .slice none 0 0, .agg #[.int .i64 0, .int .i64 0, .int .i64 0], .slice none 0 0, .agg #[.int .i64 0, .int .i64 0, .int .i64 0, .int .i64 0, .int .i64 0, .int .i64 0, .int .i64 0], .int .i64 0, .slice none 0 0], []⟩ 8 (by kernel_rfl) (by kernel_rfl) (by kernel_rfl)
      (x := ([.agg [.lit (.int .i64 0), .lit (.int .i64 0), .lit (.int .i64 0)], .nil, .nil, .nil, .agg [.lit (.int .i64 0), .lit (.int .i64 0), .lit (.int .i64 0)], .nil, .agg [.lit (.int .i64 0), .lit (.int .i64 0), .lit (.int .i64 0), .lit (.int .i64 0), .lit (.int .i64 0), .lit (.int .i64 0), .lit (.int .i64 0)], .lit (.int .i64 0), .nil], [], [])) (by kernel_rfl) rfl (by kernel_rfl)) ?_
  intro W base args ds gs before hval hW _ hk _
  exact contract H enc W base args ds gs before hval hW hk

theorem over : Rows.mergeMatchesReferenceUptoRow.holds Tryz.pinned (Rows.OpenSpec.upto Rows.mergeMatchesReferenceSpec) :=
  OpenClaim.holds_of_cond 3 Tryz.f3 rfl rfl rfl rfl rfl rfl rfl ⟨rfl, rfl, rfl, rfl, rfl⟩ rfl rfl rfl rfl rfl (by kernel_rfl) Tryz.func3 (by kernel_rfl)
    (of_decide_eq_true (by kernel_rfl)) (by unfold Func.isWrapper; first | (rw [if_pos (by decide +kernel)]; kernel_rfl) | (rw [if_neg (by decide +kernel)]; exact ⟨rfl, rfl⟩))
    (fun os started H enc _ F => lifted os started H enc F)

end Go.Proofs.YtnoicbajhlpndaaGreat.mergeMatchesReference
namespace Go.Proofs.YtnoicbajhlpndaaGreat
theorem mergeMatchesReference_holds : Rows.MergeMatchesReferenceUptoSaid := mergeMatchesReference.over
end Go.Proofs.YtnoicbajhlpndaaGreat
#print axioms Go.Proofs.YtnoicbajhlpndaaGreat.mergeMatchesReference_holds
