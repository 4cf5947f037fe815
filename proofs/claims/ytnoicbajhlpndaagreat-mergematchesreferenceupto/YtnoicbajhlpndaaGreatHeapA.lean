/- A small logic of heaps over the machine's weakest preconditions: what is known of temporaries, of cells that the call owns, and of cells that nobody writes any more. Its rules say which step of the machine keeps what is known. -/
import Derived.RangeFuncNested
import Derived.RangeFuncLeaves
import Derived.RangeFuncCalls
import Derived.WalkKit
import Derived.Shelf.Abstract
import Derived.IntWalk
import Derived.Laws.Rows
import Derived.Laws.Append
import Derived.Laws.CopyRow
namespace Go.Proofs.YtnoicbajhlpndaaGreat.Hp
open Go Go.RowKit
set_option linter.unusedVariables false

/-- A plain datum: a value as it stands, or a slice that nobody writes any more, by its elements (each a list of cells); 'full': its capacity is its length. -/
inductive PV where
  | raw (v : Value)
  | vs (es : List (List PV)) (full : Bool)
  deriving Inhabited

/-- What is known of a temporary. -/
inductive AV where
  | p (v : PV)
  | ptr (b off : Nat)
  | eptr (b k i j : Nat)
  | vptr (cs : List PV)
  | os (b k off len cap : Nat)
  | fn (f : FuncId) (caps : List AV)
  | yl (l : Nat)
  | agg (cs : List AV)
  | tup (cs : List AV)
  | junk
  deriving Inhabited

abbrev I (n : Int) : AV := .p (.raw (.int .i64 n))
abbrev B (b : Bool) : AV := .p (.raw (.bool b))
abbrev pI (n : Int) : PV := .raw (.int .i64 n)
abbrev V (es : List (List PV)) (full : Bool) : AV := .p (.vs es full)

/-- A plain datum lies in memory as a value; all cells that it reads are in blocks of which imm holds. -/
inductive RelP (hp : Array Obj) (imm : Nat → Prop) : PV → Value → Prop
  | raw (v : Value) : RelP hp imm (.raw v) v
  | nil (f : Bool) : RelP hp imm (.vs [] f) (.slice none 0 0)
  | vs (es : List (List PV)) (f : Bool) (b off k cap : Nat) (cells : Array Value) (ty : TypeId) (fz : Nat × Nat) (hb : hp[b]? = some (.cells cells ty fz)) (hi : imm b)
      (hf : f = true → cap = es.length) (hc : es.length ≤ cap) (hs : off + es.length * k ≤ cells.size) (hk : ∀ e ∈ es, e.length = k)
      (hr : ∀ (i j : Nat) (e : List PV) (c : PV) (v : Value), es[i]? = some e → e[j]? = some c → cells[off + i * k + j]? = some v → RelP hp imm c v) :
      RelP hp imm (.vs es f) (.slice (some ⟨b, off, none⟩) es.length cap)

inductive RelA (hp : Array Obj) (imm : Nat → Prop) : AV → Value → Prop
  | p {v : PV} {x : Value} (h : RelP hp imm v x) : RelA hp imm (.p v) x
  | ptr (b off : Nat) : RelA hp imm (.ptr b off) (.pointer (some ⟨b, off, none⟩))
  | eptr (b k i j : Nat) : RelA hp imm (.eptr b k i j) (.pointer (some ⟨b, i * k + j, none⟩))
  | vptr (cs : List PV) (b off : Nat) (cells : Array Value) (ty : TypeId) (fz : Nat × Nat) (hb : hp[b]? = some (.cells cells ty fz)) (hi : imm b) (hs : off + cs.length ≤ cells.size)
      (hr : ∀ (j : Nat) (c : PV) (v : Value), cs[j]? = some c → cells[off + j]? = some v → RelP hp imm c v) : RelA hp imm (.vptr cs) (.pointer (some ⟨b, off, none⟩))
  | os (b k off len cap : Nat) : RelA hp imm (.os b k off len cap) (.slice (some ⟨b, off * k, none⟩) len cap)
  | fn (f : FuncId) (caps : List AV) (vals : Array Value) (hs : vals.size = caps.length) (hr : ∀ (i : Nat) (c : AV) (v : Value), caps[i]? = some c → vals[i]? = some v → RelA hp imm c v) :
      RelA hp imm (.fn f caps) (.func (.func f) #[] vals)
  | yl (l : Nat) : RelA hp imm (.yl l) (.func (.yield l) #[] #[])
  | agg (cs : List AV) (vals : Array Value) (hs : vals.size = cs.length) (hr : ∀ (i : Nat) (c : AV) (v : Value), cs[i]? = some c → vals[i]? = some v → RelA hp imm c v) : RelA hp imm (.agg cs) (.agg vals)
  | tup (cs : List AV) (vals : Array Value) (hs : vals.size = cs.length) (hr : ∀ (i : Nat) (c : AV) (v : Value), cs[i]? = some c → vals[i]? = some v → RelA hp imm c v) : RelA hp imm (.tup cs) (.tuple vals)
  | junk (v : Value) : RelA hp imm .junk v

theorem RelP.mono {hp hp' : Array Obj} {imm imm' : Nat → Prop} (hm : ∀ b, imm b → imm' b ∧ ∀ o, hp[b]? = some o → hp'[b]? = some o) {c : PV} {v : Value} (h : RelP hp imm c v) : RelP hp' imm' c v := by
  induction h with
  | raw v => exact .raw v
  | nil f => exact .nil f
  | vs es f b off k cap cells ty fz hb hi hf hc hs hk hr ih => exact .vs es f b off k cap cells ty fz ((hm b hi).2 _ hb) (hm b hi).1 hf hc hs hk ih

theorem RelA.mono {hp hp' : Array Obj} {imm imm' : Nat → Prop} (hm : ∀ b, imm b → imm' b ∧ ∀ o, hp[b]? = some o → hp'[b]? = some o) {c : AV} {v : Value} (h : RelA hp imm c v) : RelA hp' imm' c v := by
  induction h with
  | p h => exact .p (h.mono hm)
  | ptr b off => exact .ptr b off
  | eptr b k i j => exact .eptr b k i j
  | vptr cs b off cells ty fz hb hi hs hr => exact .vptr cs b off cells ty fz ((hm b hi).2 _ hb) (hm b hi).1 hs fun j c v h1 h2 => (hr j c v h1 h2).mono hm
  | os b k off len cap => exact .os b k off len cap
  | fn f caps vals hs hr ih => exact .fn f caps vals hs ih
  | yl l => exact .yl l
  | agg cs vals hs hr ih => exact .agg cs vals hs ih
  | tup cs vals hs hr ih => exact .tup cs vals hs ih
  | junk v => exact .junk v

theorem RelP.cellsMono {hp hp' : Array Obj} {imm imm' : Nat → Prop} (hm : ∀ b, imm b → imm' b ∧ ∀ c t f, hp[b]? = some (.cells c t f) → hp'[b]? = some (.cells c t f)) {c : PV} {v : Value} (h : RelP hp imm c v) : RelP hp' imm' c v := by
  induction h with
  | raw v => exact .raw v
  | nil f => exact .nil f
  | vs es f b off k cap cells ty fz hb hi hf hc hs hk hr ih => exact .vs es f b off k cap cells ty fz ((hm b hi).2 _ _ _ hb) (hm b hi).1 hf hc hs hk ih
theorem RelA.cellsMono {hp hp' : Array Obj} {imm imm' : Nat → Prop} (hm : ∀ b, imm b → imm' b ∧ ∀ c t f, hp[b]? = some (.cells c t f) → hp'[b]? = some (.cells c t f)) {c : AV} {v : Value} (h : RelA hp imm c v) : RelA hp' imm' c v := by
  induction h with
  | p h => exact .p (h.cellsMono hm)
  | ptr b off => exact .ptr b off
  | eptr b k i j => exact .eptr b k i j
  | vptr cs b off cells ty fz hb hi hs hr => exact .vptr cs b off cells ty fz ((hm b hi).2 _ _ _ hb) (hm b hi).1 hs fun j c v h1 h2 => (hr j c v h1 h2).cellsMono hm
  | os b k off len cap => exact .os b k off len cap
  | fn f caps vals hs hr ih => exact .fn f caps vals hs ih
  | yl l => exact .yl l
  | agg cs vals hs hr ih => exact .agg cs vals hs ih
  | tup cs vals hs hr ih => exact .tup cs vals hs ih
  | junk v => exact .junk v

/-- What stands round a piece of code: blocks that are set aside, and whatever else is known of plain data. -/
structure Ctx where
  no : Nat → Prop
  gh : Array Obj → (Nat → Prop) → Prop
  mono : ∀ (hp hp' : Array Obj) (imm imm' : Nat → Prop), (∀ b, imm b → imm' b ∧ ∀ c t f, hp[b]? = some (.cells c t f) → hp'[b]? = some (.cells c t f)) → gh hp imm → gh hp' imm'
theorem Ctx.mono' (X : Ctx) {hp hp' : Array Obj} {imm imm' : Nat → Prop} (hm : ∀ b, imm b → imm' b ∧ ∀ o, hp[b]? = some o → hp'[b]? = some o) (h : X.gh hp imm) : X.gh hp' imm' :=
  X.mono hp hp' imm imm' (fun b hb => ⟨(hm b hb).1, fun c t f hc => (hm b hb).2 _ hc⟩) h

/-- What is known of a block that the call owns. -/
inductive OB where
  | box (ty : TypeId) (cs : List AV)
  | arr (ty : TypeId) (k : Nat) (es : List (List PV)) (cap : Nat)
  | obj (o : Obj)

/-- Whether a place of a block is frozen. -/
def fzO : Option Obj → Nat → Bool
  | some (.cells _ _ (lo, hi)), off => decide (lo ≤ off) && decide (off < hi)
  | _, _ => false
def Thaw (o : Obj) : Prop := ∀ off, fzO (some o) off = false
theorem frozen_fzO (w : World) (a : Addr) : w.frozen? a = fzO w.heap[a.block]? a.off := by
  unfold World.frozen? fzO
  split <;> simp_all

inductive RelO (hp : Array Obj) (imm : Nat → Prop) : OB → Obj → Prop
  | box (ty : TypeId) (cs : List AV) (cells : Array Value) (hs : cells.size = cs.length) (hr : ∀ (i : Nat) (c : AV) (v : Value), cs[i]? = some c → cells[i]? = some v → RelA hp imm c v) : RelO hp imm (.box ty cs) (.cells cells ty (0, 0))
  | arr (ty : TypeId) (k : Nat) (es : List (List PV)) (cap : Nat) (cells : Array Value) (hs : cells.size = cap * k) (hc : es.length ≤ cap) (hk : ∀ e ∈ es, e.length = k)
      (hr : ∀ (i j : Nat) (e : List PV) (c : PV) (v : Value), es[i]? = some e → e[j]? = some c → cells[i * k + j]? = some v → RelP hp imm c v) : RelO hp imm (.arr ty k es cap) (.cells cells ty (0, 0))
  | obj (o : Obj) (hz : Thaw o := by intro _; rfl) : RelO hp imm (.obj o) o

theorem RelO.mono {hp hp' : Array Obj} {imm imm' : Nat → Prop} (hm : ∀ b, imm b → imm' b ∧ ∀ o, hp[b]? = some o → hp'[b]? = some o) {c : OB} {v : Obj} (h : RelO hp imm c v) : RelO hp' imm' c v := by
  cases h with
  | box ty cs cells hs hr => exact .box ty cs cells hs fun i c v h1 h2 => (hr i c v h1 h2).mono hm
  | arr ty k es cap cells hs hc hk hr => exact .arr ty k es cap cells hs hc hk fun i j e c v h0 h1 h2 => (hr i j e c v h0 h1 h2).mono hm
  | obj _ hz => exact .obj _ hz

theorem RelO.thaw {hp : Array Obj} {imm : Nat → Prop} {c : OB} {o : Obj} (h : RelO hp imm c o) : Thaw o := by
  cases h with
  | box ty cs cells hs hr => intro off; simp [fzO]
  | arr ty k es cap cells hs hc hk hr => intro off; simp [fzO]
  | obj o hz => exact hz

abbrev AHeap := List (Nat × OB)
abbrev dom (h : AHeap) : List Nat := h.map Prod.fst

/-- Blocks that nobody writes any more: there already, not owned, not set aside. -/
def Imm (X : Ctx) (h : AHeap) (w : World) (b : Nat) : Prop := b < w.heap.size ∧ b ∉ dom h ∧ ¬ X.no b

structure Holds (X : Ctx) (h : AHeap) (w : World) : Prop where
  nodup : (dom h).Nodup
  nox : ∀ b ∈ dom h, ¬ X.no b
  xlt : ∀ b, X.no b → b < w.heap.size
  gh : X.gh w.heap (Imm X h w)
  rel : ∀ b o, (b, o) ∈ h → ∃ ob, w.heap[b]? = some ob ∧ RelO w.heap (Imm X h w) o ob

/-- What a piece of code does to memory: what it doesn't own, it doesn't touch. -/
structure Ext (h : AHeap) (w : World) (h' : AHeap) (w' : World) : Prop where
  os : w'.os = w.os
  tape : w'.tape = w.tape
  output : w'.output = w.output
  size : w.heap.size ≤ w'.heap.size
  keep : ∀ b, b < w.heap.size → b ∉ dom h → w'.heap[b]? = w.heap[b]?
  own : ∀ b, b < w.heap.size → b ∈ dom h' → b ∈ dom h
  fz : ∀ (b off : Nat), fzO w'.heap[b]? off = fzO w.heap[b]? off

theorem Ext.refl (h : AHeap) (w : World) : Ext h w h w := ⟨rfl, rfl, rfl, Nat.le_refl _, fun _ _ _ => rfl, fun _ _ h => h, fun _ _ => rfl⟩
theorem Ext.trans {h h' h'' : AHeap} {w w' w'' : World} (e : Ext h w h' w') (f : Ext h' w' h'' w'') : Ext h w h'' w'' :=
  ⟨f.os.trans e.os, f.tape.trans e.tape, f.output.trans e.output, Nat.le_trans e.size f.size,
   fun b hb hn => (f.keep b (Nat.lt_of_lt_of_le hb e.size) fun hm => hn (e.own b hb hm)).trans (e.keep b hb hn),
   fun b hb hm => e.own b hb (f.own b (Nat.lt_of_lt_of_le hb e.size) hm), fun b off => (f.fz b off).trans (e.fz b off)⟩
theorem Ext.below {w w' : World} {h' : AHeap} (e : Ext [] w h' w') : Below w.heap.size w w' := ⟨e.os, e.tape, e.output, e.size, fun b hb => e.keep b hb (by simp)⟩

theorem Ext.imm {X : Ctx} {h h' : AHeap} {w w' : World} (e : Ext h w h' w') : ∀ b, Imm X h w b → Imm X h' w' b ∧ ∀ o, w.heap[b]? = some o → w'.heap[b]? = some o :=
  fun b hb => ⟨⟨Nat.lt_of_lt_of_le hb.1 e.size, fun hm => hb.2.1 (e.own b hb.1 hm), hb.2.2⟩, fun o ho => (e.keep b hb.1 hb.2.1).trans ho⟩

theorem RelP.ext {X : Ctx} {h h' : AHeap} {w w' : World} (e : Ext h w h' w') {c : PV} {v : Value} (r : RelP w.heap (Imm X h w) c v) : RelP w'.heap (Imm X h' w') c v := r.mono e.imm
theorem RelA.ext {X : Ctx} {h h' : AHeap} {w w' : World} (e : Ext h w h' w') {c : AV} {v : Value} (r : RelA w.heap (Imm X h w) c v) : RelA w'.heap (Imm X h' w') c v := r.mono e.imm

theorem Holds.lt {X : Ctx} {h : AHeap} {w : World} (H : Holds X h w) {b : Nat} (hb : b ∈ dom h) : b < w.heap.size := by
  obtain ⟨⟨b', o⟩, hm, rfl⟩ := List.mem_map.1 hb
  obtain ⟨ob, ho, _⟩ := H.rel b' o hm
  exact (Array.getElem?_eq_some_iff.1 ho).1

/-! ### temporaries -/
abbrev Tmps := List (Nat × AV)
def lk : Tmps → Nat → Option AV
  | [], _ => none
  | (u, v) :: r, t => bif Nat.beq u t then some v else lk r t

theorem lk_same (a : Tmps) (t : Nat) (v : AV) : lk ((t, v) :: a) t = some v := by simp [lk]
theorem lk_other (a : Tmps) {t u : Nat} (v : AV) (h : u ≠ t) : lk ((u, v) :: a) t = lk a t := by
  have : Nat.beq u t = false := by rw [← Bool.not_eq_true, Nat.beq_eq]; exact h
  simp [lk, this]

/-- A constant, as it is known. -/
def zav : Value → PV
  | .slice none 0 0 => .vs [] true
  | v => .raw v
def cav : Value → AV
  | .agg cs => .agg (cs.toList.map fun c => .p (zav c))
  | v => .p (zav v)
theorem zav_rel (hp : Array Obj) (imm : Nat → Prop) (v : Value) : RelP hp imm (zav v) v := by
  unfold zav
  split
  · exact .nil true
  · exact .raw v
theorem cav_rel (hp : Array Obj) (imm : Nat → Prop) (v : Value) : RelA hp imm (cav v) v := by
  unfold cav
  split
  · rename_i cs
    refine .agg _ cs (by simp) fun i c v hc hv => ?_
    have hi : i < cs.size := (Array.getElem?_eq_some_iff.1 hv).1
    simp only [List.getElem?_map, Array.getElem?_toList, hv, Option.map_some, Option.some.injEq] at hc
    subst hc
    exact .p (zav_rel hp imm v)
  · exact .p (zav_rel hp imm v)

def ev (a : Tmps) : Operand → Option AV
  | .tmp t => lk a t
  | .const v => some (cav v)
  | .global _ => none
  | .func f => some (.fn f [])

structure St (X : Ctx) (N : Nat) (ds : List Deferred) (a : Tmps) (h : AHeap) (act : Act) (w : World) : Prop where
  size : act.tmps.size = N
  defers : act.defers = ds
  tm : ∀ t v, lk a t = some v → ∃ x, act.tmps[t]? = some x ∧ RelA w.heap (Imm X h w) v x
  heap : Holds X h w

theorem St.ev {X : Ctx} {N : Nat} {ds : List Deferred} {a : Tmps} {h : AHeap} {act : Act} {w : World} (s : St X N ds a h act w) {x : Operand} {v : AV} (hx : ev a x = some v) :
    RelA w.heap (Imm X h w) v (act.eval x) := by
  cases x with
  | tmp t => obtain ⟨y, hy, hr⟩ := s.tm t v hx; simpa [Act.eval, Array.getD_eq_getD_getElem?, hy] using hr
  | const c => cases hx; exact cav_rel _ _ c
  | global g => cases hx
  | func f => cases hx; exact .fn f [] #[] rfl (by simp)

theorem St.put {X : Ctx} {N : Nat} {ds : List Deferred} {a : Tmps} {h h' : AHeap} {act : Act} {w w' : World} (s : St X N ds a h act w) (e : Ext h w h' w') (H : Holds X h' w') {d : Nat} (hd : d < N) {v : AV} {x : Value}
    (r : RelA w'.heap (Imm X h' w') v x) : St X N ds ((d, v) :: a) h' (act.put (some d) x) w' := by
  refine ⟨by simp [Act.put, s.size], s.defers, fun t u hu => ?_, H⟩
  by_cases ht : d = t
  · subst ht; rw [lk_same] at hu; cases hu
    exact ⟨x, by simp [Act.put, s.size, hd], r⟩
  · rw [lk_other _ _ ht] at hu
    obtain ⟨y, hy, hr⟩ := s.tm t u hu
    exact ⟨y, by simp [Act.put, Array.getElem?_setIfInBounds_ne ht, hy], hr.ext e⟩

theorem St.keep {X : Ctx} {N : Nat} {ds : List Deferred} {a : Tmps} {h h' : AHeap} {act : Act} {w w' : World} (s : St X N ds a h act w) (e : Ext h w h' w') (H : Holds X h' w') : St X N ds a h' act w' :=
  ⟨s.size, s.defers, fun t v hv => let ⟨x, hx, hr⟩ := s.tm t v hv; ⟨x, hx, hr.ext e⟩, H⟩
theorem dQ {p : Prop} [Decidable p] (h : decide p = true := by rfl) : p := of_decide_eq_true h
end Go.Proofs.YtnoicbajhlpndaaGreat.Hp
/- The rules of control of the small logic of heaps: sequence, test, block, loop, region, call and return. -/
namespace Go.Proofs.YtnoicbajhlpndaaGreat.Hp
open Go Go.RowKit
set_option linter.unusedVariables false

abbrev Post := Exit → List Deferred → Tmps → AHeap → Prop
/-- The wide fence, in a round of a loop over a function or not. -/
def Fr (r : Option Nat) : Fence := { Fence.wide with round := r }

def post (X : Ctx) (N : Nat) (Q : Post) (h : AHeap) (w : World) : Exit → Act → World → Prop :=
  fun e act' w' => ∃ ds' a' h', Q e ds' a' h' ∧ St X N ds' a' h' act' w' ∧ Ext h w h' w'

/-- From all states of which ds, a and h are known, the code comes to an exit at which Q holds. -/
def WP (P : Program) (X : Ctx) (N : Nat) (r : Option Nat) (c : Code) (Q : Post) (ds : List Deferred) (a : Tmps) (h : AHeap) : Prop :=
  ∀ act w, St X N ds a h act w → ∀ n, c.wpIn (Fr r) n P (post X N Q h w) act w

section
variable {P : Program} {X : Ctx} {N : Nat} {r : Option Nat} {Q : Post} {ds : List Deferred} {a : Tmps} {h : AHeap}

theorem post_ext {h' : AHeap} {w w' : World} (e : Ext h w h' w') {x : Exit} {act : Act} {w2 : World} (p : post X N Q h' w' x act w2) : post X N Q h w x act w2 := by
  obtain ⟨ds', a', h2, q, s, f⟩ := p
  exact ⟨ds', a', h2, q, s, e.trans f⟩

theorem h_conseq {c : Code} {Q' : Post} (k : WP P X N r c Q' ds a h) (hq : ∀ e ds a h, Q' e ds a h → Q e ds a h) : WP P X N r c Q ds a h :=
  fun act w s n => wpIn_mono (k act w s n) fun e a' w' ⟨ds', a'', h', q, s', x⟩ => ⟨ds', a'', h', hq _ _ _ _ q, s', x⟩

/-- What is known may be forgotten. -/
theorem St.weaken {a' : Tmps} {act : Act} {w : World} (s : St X N ds a h act w) (hw : ∀ t v, lk a' t = some v → lk a t = some v) : St X N ds a' h act w :=
  ⟨s.size, s.defers, fun t v hv => s.tm t v (hw t v hv), s.heap⟩
theorem h_weaken {c : Code} {a' : Tmps} (hw : ∀ t v, lk a' t = some v → lk a t = some v) (k : WP P X N r c Q ds a' h) : WP P X N r c Q ds a h :=
  fun act w s n => k act w (s.weaken hw) n

theorem h_skip (k : Q .normal ds a h) : WP P X N r .skip Q ds a h := fun act w s n => wpIn_skip ⟨ds, a, h, k, s, Ext.refl _ _⟩
theorem h_exit {id : Nat} (k : Q (.exit id) ds a h) : WP P X N r (.exit id) Q ds a h := fun act w s n => wpIn_exit ⟨ds, a, h, k, s, Ext.refl _ _⟩
theorem h_ret (k : Q .ret ds a h) : WP P X N r .ret Q ds a h := fun act w s n => wpIn_ret ⟨ds, a, h, k, s, Ext.refl _ _⟩

/-- Behind a part of a sequence. -/
def thn (K : List Deferred → Tmps → AHeap → Prop) (Q : Post) : Post
  | .normal, ds, a, h => K ds a h
  | .exit id, ds, a, h => Q (.exit id) ds a h
  | .goto l, ds, a, h => Q (.goto l) ds a h
  | .ret, ds, a, h => Q .ret ds a h
  | .panic c, ds, a, h => Q (.panic c) ds a h
  | .outgrown, ds, a, h => Q .outgrown ds a h

theorem h_seq {x y : Code} (k : WP P X N r x (thn (WP P X N r y Q) Q) ds a h) : WP P X N r (.seq x y) Q ds a h := by
  intro act w s n
  refine wpIn_seq (wpIn_mono (k act w s n) ?_)
  rintro e a' w' ⟨ds', a'', h', q, s', x'⟩
  cases e with
  | normal => exact wpIn_mono (q a' w' s' n) fun e a2 w2 p => post_ext x' p
  | _ => exact ⟨ds', a'', h', q, s', x'⟩

theorem h_cond {c : Operand} {x y : Code} {t : Bool} (hc : ev a c = some (B t)) (kt : t = true → WP P X N r x Q ds a h) (kf : t = false → WP P X N r y Q ds a h) : WP P X N r (.cond c x y) Q ds a h := by
  intro act w s n
  have hr := s.ev hc
  have hv : act.eval c = .bool t := by
    generalize act.eval c = x at hr
    cases hr with | p hp => cases hp; rfl
  refine wpIn_cond_split hv (fun ht => kt ht act w s n) (fun ht => kf (by simpa using ht) act w s n)

/-- A block that an exit may leave. -/
def inBlk (id : Nat) (Q : Post) : Post
  | .exit id', ds, a, h => bif Nat.beq id' id then Q .normal ds a h else Q (.exit id') ds a h
  | .normal, ds, a, h => Q .normal ds a h
  | .goto l, ds, a, h => Q (.goto l) ds a h
  | .ret, ds, a, h => Q .ret ds a h
  | .panic c, ds, a, h => Q (.panic c) ds a h
  | .outgrown, ds, a, h => Q .outgrown ds a h

theorem h_block {id : Nat} {c : Code} (k : WP P X N r c (inBlk id Q) ds a h) : WP P X N r (.block id c) Q ds a h := by
  intro act w s n
  refine wpIn_block (wpIn_mono (k act w s n) ?_)
  rintro e a' w' ⟨ds', a'', h', q, s', x'⟩
  cases e with
  | exit id' =>
    simp only [Exit.inBlock]
    by_cases hi : id' = id
    · subst hi; rw [if_pos rfl]; simp only [inBlk, Nat.beq_refl, cond_true] at q; exact ⟨ds', a'', h', q, s', x'⟩
    · rw [if_neg hi]
      have : Nat.beq id' id = false := by rw [← Bool.not_eq_true, Nat.beq_eq]; exact hi
      simp only [inBlk, this, cond_false] at q; exact ⟨ds', a'', h', q, s', x'⟩
  | _ => exact ⟨ds', a'', h', q, s', x'⟩

theorem exists_least {p : Nat → Prop} (k : Nat) (hk : p k) : ∃ m, p m ∧ ∀ j, p j → m ≤ j := by
  induction k using Nat.strongRecOn with
  | _ k ih =>
    by_cases h : ∃ j, j < k ∧ p j
    · obtain ⟨j, hj, hp⟩ := h; exact ih j hj hp
    · exact ⟨k, hk, fun j hj => Nat.le_of_not_lt fun hlt => h ⟨j, hlt, hj⟩⟩

/-- A loop: a family of states, one for each i; each round leads to a state of the family with a lesser measure, or out. -/
theorem h_loop {ι : Type} (S : ι → Tmps) (H : ι → AHeap) (m : ι → Nat) (i0 : ι) (h0 : h = H i0) (a0 : ∀ t v, lk (S i0) t = some v → lk a t = some v) {c : Code}
    (round : ∀ i, WP P X N r c (thn (fun ds' a' h' => ds' = ds ∧ ∃ j, m j < m i ∧ h' = H j ∧ ∀ t v, lk (S j) t = some v → lk a' t = some v) Q) ds (S i) (H i)) :
    WP P X N r (.loop c) Q ds a h := by
  intro act w s n
  subst h0
  let Inv : ι → Act → World → Prop := fun i act' w' => St X N ds (S i) (H i) act' w' ∧ Ext (H i0) w (H i) w'
  let μ : Act → World → Nat := fun act' w' => by
    classical exact if hx : ∃ k i, m i = k ∧ Inv i act' w' then Classical.choose (exists_least (p := fun k => ∃ i, m i = k ∧ Inv i act' w') hx.choose hx.choose_spec) else 0
  have hμ : ∀ act' w' i, Inv i act' w' → (∃ j, m j = μ act' w' ∧ Inv j act' w') ∧ μ act' w' ≤ m i := by
    intro act' w' i hi
    have hx : ∃ k i, m i = k ∧ Inv i act' w' := ⟨m i, i, rfl, hi⟩
    have hc := Classical.choose_spec (exists_least (p := fun k => ∃ i, m i = k ∧ Inv i act' w') hx.choose hx.choose_spec)
    have he : μ act' w' = Classical.choose (exists_least (p := fun k => ∃ i, m i = k ∧ Inv i act' w') hx.choose hx.choose_spec) := dif_pos hx
    rw [he]
    exact ⟨hc.1, hc.2 _ ⟨i, rfl, hi⟩⟩
  refine wpIn_loop (fun act' w' => ∃ i, Inv i act' w') μ ⟨i0, s.weaken a0, Ext.refl _ _⟩ ?_
  rintro act' w' ⟨i, hi⟩
  obtain ⟨⟨j, hj, hs, hx⟩, _⟩ := hμ act' w' i hi
  refine wpIn_mono (round j act' w' hs n) ?_
  rintro e a2 w2 ⟨ds', a'', h', q, s', x'⟩
  cases e with
  | normal =>
    obtain ⟨rfl, k, hk, rfl, hw⟩ := q
    have hI : Inv k a2 w2 := ⟨s'.weaken hw, hx.trans x'⟩
    exact ⟨⟨k, hI⟩, by have := (hμ a2 w2 k hI).2; omega⟩
  | _ => exact ⟨ds', a'', h', q, s', hx.trans x'⟩

/-! ### regions -/
def opsIn (F : Fence) (n : Nat) (P : Program) (ops : Array Oper) (Q : Exit → Act → World → Prop) : List Oper → Act → World → Prop
  | [], a, w => Q .normal a w
  | o :: rest, a, w =>
    if Region.wanted o (yielded ops a.tmps) then o.wpIn F n P a w (opsIn F n P ops Q rest) Q
    else (∀ f, o.about P w a.eval = some f → F.fn f) ∧ opsIn F n P ops Q rest (a.put o.dst undef) w

theorem opsIn_eq (F : Fence) (n : Nat) (P : Program) (ops : Array Oper) (Q : Exit → Act → World → Prop) : ∀ l : List Nat, wpOpsIn F n P ops Q l = opsIn F n P ops Q (l.filterMap (ops[·]?)) := by
  intro l
  induction l with
  | nil => funext a w; rfl
  | cons i rest ih =>
    funext a w
    simp only [wpOpsIn]
    cases ho : ops[i]? with
    | none => simp [ho, ih]
    | some o => simp [ho, opsIn, ih]

theorem filterMap_range' (l : List Oper) : ∀ (p : List Oper), (List.range' p.length l.length).filterMap ((p ++ l).toArray[·]?) = l := by
  induction l with
  | nil => intro p; simp
  | cons x l ih =>
    intro p
    have := ih (p ++ [x])
    simp only [List.length_append, List.length_singleton, List.append_assoc, List.singleton_append] at this
    rw [List.length_cons, List.range'_succ, List.filterMap_cons]
    simp only [List.getElem?_toArray] at this ⊢
    simp [this]

/-- From all states of which ds, a and h are known, the operations of a region come to its end with Q. -/
def WPs (P : Program) (X : Ctx) (N : Nat) (r : Option Nat) (ops : Array Oper) (l : List Oper) (Q : Post) (ds : List Deferred) (a : Tmps) (h : AHeap) : Prop :=
  ∀ act w, St X N ds a h act w → ∀ n, opsIn (Fr r) n P ops (post X N Q h w) l act w

theorem h_region {id : Nat} {ops : Array Oper} (k : WPs P X N r ops ops.toList Q ds a h) : WP P X N r (.region id ops false) Q ds a h := by
 intro act w s n
 refine wpIn_region ?_
 rw [opsIn_eq]
 have := filterMap_range' ops.toList []
 simp only [List.length_nil, List.nil_append, Array.toArray_toList, Array.length_toList] at this
 rw [List.range_eq_range', this]
 exact k act w s n

theorem o_nil {ops : Array Oper} (k : Q .normal ds a h) : WPs P X N r ops [] Q ds a h := fun act w s n => ⟨ds, a, h, k, s, Ext.refl _ _⟩

theorem opsIn_mono {F : Fence} {n : Nat} {ops : Array Oper} {Q1 Q2 : Exit → Act → World → Prop} (hq : ∀ e a w, Q1 e a w → Q2 e a w) : ∀ (l : List Oper) (a : Act) (w : World), opsIn F n P ops Q1 l a w → opsIn F n P ops Q2 l a w := by
  intro l
  induction l with
  | nil => exact fun a w h => hq _ _ _ h
  | cons o rest ih =>
    intro a w h
    simp only [opsIn] at h ⊢
    split
    · rename_i hw
      rw [if_pos hw] at h
      refine ⟨h.1, ?_⟩
      have h2 := h.2
      revert h2
      generalize (o.semAt F.round a.eval).run P w = res
      intro h2
      cases res with
      | ok nx w' =>
        cases nx with
        | value v => exact ih _ _ h2
        | skip => exact ih _ _ h2
        | defer d => exact ih _ _ h2
        | enter f args =>
          refine ⟨h2.1, h2.2.mono ?_⟩
          intro e w2 he
          cases e with
          | returned v => exact ih _ _ he
          | panicked ch => exact hq _ _ _ he
          | outgrown => obtain ⟨x, y, z⟩ := he; exact ⟨x, y, hq _ _ _ z⟩
        | row row args => exact ⟨h2.1, h2.2.mono fun v w2 he => ih _ _ he⟩
        | round l f tmps assign body =>
          refine ⟨h2.1, h2.2.mono ?_⟩
          intro e w2 he
          cases e with
          | returned v => exact ih _ _ he
          | panicked ch => exact hq _ _ _ he
          | outgrown => obtain ⟨x, y, z⟩ := he; exact ⟨x, y, hq _ _ _ z⟩
        | _ => exact h2
      | halt hh w' =>
        cases hh with
        | panic v => exact hq _ _ _ h2
        | _ => exact h2
    · rename_i hw
      rw [if_neg hw] at h
      exact ⟨h.1, ih _ _ h.2⟩

/-- An operation that gives a value, and does not call. -/
theorem o_run {ops : Array Oper} {rest : List Oper} {d : Tmp} {op : Op} {ty : TypeId} {pos : String} {aft : Array Edge} (K : AV → AHeap → Prop) (hN : d < N) (hdef : ∀ c, op ≠ .defer c)
    (hrun : ∀ act w, St X N ds a h act w → ∃ x w' v h', K v h' ∧ (execOp act.eval ⟨some d, op, ty, pos, aft, none⟩).run P w = .ok (.value x) w' ∧ RelA w'.heap (Imm X h' w') v x ∧ Holds X h' w' ∧ Ext h w h' w')
    (k : ∀ v h', K v h' → WPs P X N r ops rest Q ds ((d, v) :: a) h') : WPs P X N r ops (⟨some d, op, ty, pos, aft, none⟩ :: rest) Q ds a h := by
  intro act w s n
  obtain ⟨x, w', v, h', hK, hx, hr, hH, he⟩ := hrun act w s
  simp only [opsIn, Region.wanted, if_true]
  refine ⟨fun f _ => trivial, ?_⟩
  rw [Oper.semAt_eq _ _ _ hdef, hx]
  exact opsIn_mono (fun e a2 w2 p => post_ext he p) _ _ _ (k v h' hK _ _ (s.put he hH hN hr) n)

/-- An operation that gives no value. -/
theorem o_run0 {ops : Array Oper} {rest : List Oper} {op : Op} {ty : TypeId} {pos : String} {aft : Array Edge} {h' : AHeap} (hdef : ∀ c, op ≠ .defer c)
    (hrun : ∀ act w, St X N ds a h act w → ∃ w', (execOp act.eval ⟨none, op, ty, pos, aft, none⟩).run P w = .ok .skip w' ∧ Holds X h' w' ∧ Ext h w h' w')
    (k : WPs P X N r ops rest Q ds a h') : WPs P X N r ops (⟨none, op, ty, pos, aft, none⟩ :: rest) Q ds a h := by
  intro act w s n
  obtain ⟨w', hx, hH, he⟩ := hrun act w s
  simp only [opsIn, Region.wanted, if_true]
  refine ⟨fun f _ => trivial, ?_⟩
  rw [Oper.semAt_eq _ _ _ hdef, hx]
  exact opsIn_mono (fun e a2 w2 p => post_ext he p) _ _ _ (k _ _ (s.keep he hH) n)

/-! ### guards -/
theorem o_guard {ops : Array Oper} {rest : List Oper} {d : Tmp} {op : Op} {ty : TypeId} {pos : String} {aft : Array Edge} {j : Nat} {pol : Bool} {t : Tmp} {b : Bool}
    (hj : (ops[j]?).bind (·.dst) = some t) (ht : lk a t = some (B b)) (hN : d < N)
    (ky : b = pol → WPs P X N r ops (⟨some d, op, ty, pos, aft, none⟩ :: rest) Q ds a h)
    (kn : b = !pol → WPs P X N r ops rest Q ds ((d, .p (.raw undef)) :: a) h) : WPs P X N r ops (⟨some d, op, ty, pos, aft, some (j, pol)⟩ :: rest) Q ds a h := by
  intro act w s n
  obtain ⟨x, hx, hr⟩ := s.tm t _ ht
  have hb : x = .bool b := by cases hr with | p hp => cases hp; rfl
  subst hb
  have hy : yielded ops act.tmps j = some b := by simp only [yielded, hj, Option.bind_some, hx]
  simp only [opsIn, Region.wanted, hy]
  by_cases hbp : b = pol
  · subst hbp
    have := ky rfl act w s n
    simp only [opsIn, Region.wanted, if_true] at this
    simp only [beq_self_eq_true, if_true]
    exact this
  · have hnb : b = !pol := by cases b <;> cases pol <;> simp_all
    rw [if_neg (by simpa using hbp)]
    refine ⟨fun f _ => trivial, ?_⟩
    exact kn hnb _ _ (s.put (Ext.refl _ _) s.heap hN (.p (.raw _))) n
theorem o_guardy {ops : Array Oper} {rest : List Oper} {d : Tmp} {op : Op} {ty : TypeId} {pos : String} {aft : Array Edge} {j : Nat} {pol : Bool} {t : Tmp} {b : Bool}
    (hj : (ops[j]?).bind (·.dst) = some t) (ht : lk a t = some (B b)) (hb : b = pol) (hN : d < N) (ky : WPs P X N r ops (⟨some d, op, ty, pos, aft, none⟩ :: rest) Q ds a h) : WPs P X N r ops (⟨some d, op, ty, pos, aft, some (j, pol)⟩ :: rest) Q ds a h :=
  o_guard hj ht hN (fun _ => ky) (fun hn => by subst hb; cases b <;> simp at hn)
theorem o_guardn {ops : Array Oper} {rest : List Oper} {d : Tmp} {op : Op} {ty : TypeId} {pos : String} {aft : Array Edge} {j : Nat} {pol : Bool} {t : Tmp} {b : Bool}
    (hj : (ops[j]?).bind (·.dst) = some t) (ht : lk a t = some (B b)) (hb : b = !pol) (hN : d < N) (kn : WPs P X N r ops rest Q ds ((d, .p (.raw undef)) :: a) h) : WPs P X N r ops (⟨some d, op, ty, pos, aft, some (j, pol)⟩ :: rest) Q ds a h :=
  o_guard hj ht hN (fun hy => by subst hb; cases pol <;> simp at hy) (fun _ => kn)
theorem h_condt {c : Operand} {x y : Code} {t : Bool} (hc : ev a c = some (B t)) (ht : t = true) (k : WP P X N r x Q ds a h) : WP P X N r (.cond c x y) Q ds a h := h_cond hc (fun _ => k) (fun hf => by rw [ht] at hf; cases hf)
theorem h_condf {c : Operand} {x y : Code} {t : Bool} (hc : ev a c = some (B t)) (ht : t = false) (k : WP P X N r y Q ds a h) : WP P X N r (.cond c x y) Q ds a h := h_cond hc (fun hf => by rw [ht] at hf; cases hf) (fun _ => k)
end
end Go.Proofs.YtnoicbajhlpndaaGreat.Hp
/- What a function does, as a contract over what is known of its arguments and of the memory that it may write; a call by contract; a function's contract from its body. -/
namespace Go.Proofs.YtnoicbajhlpndaaGreat.Hp
open Go Go.RowKit Go.Shelf
set_option linter.unusedVariables false

def RelAs (hp : Array Obj) (imm : Nat → Prop) (cs : List AV) (vals : Array Value) : Prop :=
  vals.size = cs.length ∧ ∀ (i : Nat) (c : AV) (v : Value), cs[i]? = some c → vals[i]? = some v → RelA hp imm c v

theorem RelAs.nil (hp : Array Obj) (imm : Nat → Prop) : RelAs hp imm [] #[] := ⟨rfl, by simp⟩
theorem RelAs.append {hp : Array Obj} {imm : Nat → Prop} {cs ds : List AV} {xs ys : Array Value} (h : RelAs hp imm cs xs) (k : RelAs hp imm ds ys) : RelAs hp imm (cs ++ ds) (xs ++ ys) := by
  refine ⟨by simp [h.1, k.1], fun i c v hc hv => ?_⟩
  by_cases hi : i < cs.length
  · rw [List.getElem?_append_left hi] at hc
    rw [Array.getElem?_append_left (by rw [h.1]; exact hi)] at hv
    exact h.2 i c v hc hv
  · rw [List.getElem?_append_right (by omega)] at hc
    rw [Array.getElem?_append_right (by rw [h.1]; omega), h.1] at hv
    exact k.2 _ c v hc hv
theorem RelAs.mono {hp hp' : Array Obj} {imm imm' : Nat → Prop} (hm : ∀ b, imm b → imm' b ∧ ∀ o, hp[b]? = some o → hp'[b]? = some o) {c : List AV} {v : Array Value} (h : RelAs hp imm c v) : RelAs hp' imm' c v :=
  ⟨h.1, fun i c v h1 h2 => (h.2 i c v h1 h2).mono hm⟩

inductive AEnd where
  | ret (v : AV)
  | pan (c : List PanicEntry)
inductive RelE (hp : Array Obj) (imm : Nat → Prop) : AEnd → Ending → Prop
  | ret {v : AV} {x : Value} (h : RelA hp imm v x) : RelE hp imm (.ret v) (.returned x)
  | pan (c : List PanicEntry) : RelE hp imm (.pan c) (.panicked c)

/-- A contract: arguments, what is owned ahead of the call; how it ends and what is owned then. -/
def FnX (P : Program) (X : Ctx) (f : FuncId) (args : List AV) (h : AHeap) (R : AEnd → AHeap → Prop) : Prop :=
  ∀ (w : World) (vals : Array Value), Holds X h w → RelAs w.heap (Imm X h w) args vals →
    Calls P f vals w fun e w' => ∃ E h', R E h' ∧ RelE w'.heap (Imm X h' w') E e ∧ Holds X h' w' ∧ Ext h w h' w'
def FnE (P : Program) (f : FuncId) (args : List AV) (h : AHeap) (R : AEnd → AHeap → Prop) : Prop := ∀ X, FnX P X f args h R
/-- The same, of a function that returns. -/
def Fc (P : Program) (f : FuncId) (args : List AV) (h : AHeap) (R : AV → AHeap → Prop) : Prop := FnE P f args h fun E h' => ∃ r, E = .ret r ∧ R r h'
/-- A function that only computes. -/
def Fn1 (P : Program) (f : FuncId) (args : List AV) (r : AV) : Prop := Fc P f args [] fun r' h' => r' = r ∧ h' = []

theorem FnE.mono {P : Program} {f : FuncId} {args : List AV} {h : AHeap} {R R' : AEnd → AHeap → Prop} (k : FnE P f args h R) (hr : ∀ E h', R E h' → R' E h') : FnE P f args h R' :=
  fun X w vals H hv => (k X w vals H hv).mono fun e w' ⟨E, h', a, b, c, d⟩ => ⟨E, h', hr _ _ a, b, c, d⟩
theorem Fc.mono {P : Program} {f : FuncId} {args : List AV} {h : AHeap} {R R' : AV → AHeap → Prop} (k : Fc P f args h R) (hr : ∀ r h', R r h' → R' r h') : Fc P f args h R' :=
  FnE.mono k fun E h' ⟨r, a, b⟩ => ⟨r, a, hr _ _ b⟩

/-! ### what is no longer owned is plain data from then on -/
inductive FrzA (h h' : AHeap) : AV → AV → Prop
  | refl (v : AV) : FrzA h h' v v
  | os (b k off len cap : Nat) (ty : TypeId) (es : List (List PV)) (c' : Nat) (f : Bool) (hm : (b, OB.arr ty k es c') ∈ h) (hd : b ∉ dom h') (hl : off + len ≤ es.length) (hc : len ≤ cap) (hf : f = true → cap = len) :
      FrzA h h' (.os b k off len cap) (V ((es.drop off).take len) f)
  | agg (cs ds : List AV) (hs : cs.length = ds.length) (hr : ∀ (i : Nat) (c d : AV), cs[i]? = some c → ds[i]? = some d → FrzA h h' c d) : FrzA h h' (.agg cs) (.agg ds)
  | tup (cs ds : List AV) (hs : cs.length = ds.length) (hr : ∀ (i : Nat) (c d : AV), cs[i]? = some c → ds[i]? = some d → FrzA h h' c d) : FrzA h h' (.tup cs) (.tup ds)
  | fn (f : FuncId) (cs ds : List AV) (hs : cs.length = ds.length) (hr : ∀ (i : Nat) (c d : AV), cs[i]? = some c → ds[i]? = some d → FrzA h h' c d) : FrzA h h' (.fn f cs) (.fn f ds)
  | junk (v : AV) : FrzA h h' v .junk

theorem Imm.less {X : Ctx} {h h' : AHeap} {w : World} (hd : ∀ b, b ∈ dom h' → b ∈ dom h) : ∀ b, Imm X h w b → Imm X h' w b ∧ ∀ o, w.heap[b]? = some o → w.heap[b]? = some o :=
  fun b hb => ⟨⟨hb.1, fun hm => hb.2.1 (hd b hm), hb.2.2⟩, fun o ho => ho⟩

theorem FrzA.sound {X : Ctx} {h h' : AHeap} {w : World} (H : Holds X h w) (hd : ∀ b, b ∈ dom h' → b ∈ dom h) {v v' : AV} (f : FrzA h h' v v') : ∀ x, RelA w.heap (Imm X h w) v x → RelA w.heap (Imm X h' w) v' x := by
  induction f with
  | refl v => exact fun x r => r.mono (Imm.less hd)
  | junk v => exact fun x r => .junk x
  | os b k off len cap ty es c' f hm hn hl hc hf =>
    intro x r
    cases r
    obtain ⟨ob, ho, hro⟩ := H.rel b _ hm
    cases hro with
    | arr _ _ _ _ cells hs hc2 hk hr =>
      have hlen : ((es.drop off).take len).length = len := by simp; omega
      have hbd : b ∈ dom h := List.mem_map.2 ⟨_, hm, rfl⟩
      have := RelP.vs (hp := w.heap) (imm := Imm X h' w) ((es.drop off).take len) f b (off * k) k cap cells ty (0, 0) ho ⟨H.lt hbd, hn, H.nox b hbd⟩ (by rw [hlen]; exact hf) (by omega)
        (by
          rw [hlen, hs, ← Nat.add_mul]
          exact Nat.mul_le_mul_right k (by omega))
        (fun e he => hk e (List.mem_of_mem_drop (List.mem_of_mem_take he)))
        (fun i j e c v he hcj hv => by
          rw [List.getElem?_take] at he
          split at he
          · rw [List.getElem?_drop] at he
            have hv' : cells[(off + i) * k + j]? = some v := by rw [Nat.add_mul]; exact hv
            exact (hr (off + i) j e c v he hcj hv').mono (Imm.less hd)
          · cases he)
      rw [hlen] at this
      exact .p this
  | agg cs ds hs hr ih =>
    intro x r
    cases r with
    | agg _ vals hv hrv =>
      refine .agg ds vals (by omega) fun i d v hdi hvi => ?_
      have hi : i < cs.length := by rw [hs]; exact (List.getElem?_eq_some_iff.1 hdi).1
      exact ih i cs[i] d (by simp [hi]) hdi v (hrv i _ v (by simp [hi]) hvi)
  | tup cs ds hs hr ih =>
    intro x r
    cases r with
    | tup _ vals hv hrv =>
      refine .tup ds vals (by omega) fun i d v hdi hvi => ?_
      have hi : i < cs.length := by rw [hs]; exact (List.getElem?_eq_some_iff.1 hdi).1
      exact ih i cs[i] d (by simp [hi]) hdi v (hrv i _ v (by simp [hi]) hvi)
  | fn g cs ds hs hr ih =>
    intro x r
    cases r with
    | fn _ _ vals hv hrv =>
      refine .fn g ds vals (by omega) fun i d v hdi hvi => ?_
      have hi : i < cs.length := by rw [hs]; exact (List.getElem?_eq_some_iff.1 hdi).1
      exact ih i cs[i] d (by simp [hi]) hdi v (hrv i _ v (by simp [hi]) hvi)

inductive FrzO (h h' : AHeap) : OB → OB → Prop
  | refl (o : OB) : FrzO h h' o o
  | box (ty : TypeId) (cs ds : List AV) (hs : cs.length = ds.length) (hr : ∀ (i : Nat) (c d : AV), cs[i]? = some c → ds[i]? = some d → FrzA h h' c d) : FrzO h h' (.box ty cs) (.box ty ds)

theorem FrzO.sound {X : Ctx} {h h' : AHeap} {w : World} (H : Holds X h w) (hd : ∀ b, b ∈ dom h' → b ∈ dom h) {o o' : OB} (f : FrzO h h' o o') {ob : Obj} (r : RelO w.heap (Imm X h w) o ob) : RelO w.heap (Imm X h' w) o' ob := by
  cases f with
  | refl => exact r.mono (Imm.less hd)
  | box ty cs ds hs hr =>
    cases r with
    | box _ _ cells hc hrc =>
      refine .box ty ds cells (by omega) fun i d v hdi hvi => ?_
      have hi : i < cs.length := by rw [hs]; exact (List.getElem?_eq_some_iff.1 hdi).1
      exact (hr i cs[i] d (by simp [hi]) hdi).sound H hd v (hrc i _ v (by simp [hi]) hvi)

theorem dom_of_frz {h h' : AHeap} (hm : ∀ b o', (b, o') ∈ h' → ∃ o, (b, o) ∈ h ∧ FrzO h h' o o') : ∀ b, b ∈ dom h' → b ∈ dom h := by
  intro b hb
  obtain ⟨⟨b', o⟩, h1, rfl⟩ := List.mem_map.1 hb
  obtain ⟨o2, h2, _⟩ := hm _ _ h1
  exact List.mem_map.2 ⟨_, h2, rfl⟩
theorem Holds.frz {X : Ctx} {h h' : AHeap} {w : World} (H : Holds X h w) (hn : (dom h').Nodup) (hm : ∀ b o', (b, o') ∈ h' → ∃ o, (b, o) ∈ h ∧ FrzO h h' o o') : Holds X h' w :=
  ⟨hn, fun b hb => H.nox b (dom_of_frz hm b hb), H.xlt, X.mono' (Imm.less (dom_of_frz hm)) H.gh, fun b o' ho' => by
    obtain ⟨o, h2, f⟩ := hm b o' ho'
    obtain ⟨ob, h3, r⟩ := H.rel b o h2
    exact ⟨ob, h3, f.sound H (dom_of_frz hm) r⟩⟩
theorem Ext.frz {h h' : AHeap} (w : World) (hd : ∀ b, b ∈ dom h' → b ∈ dom h) : Ext h w h' w := ⟨rfl, rfl, rfl, Nat.le_refl _, fun _ _ _ => rfl, fun b _ hb => hd b hb, fun _ _ => rfl⟩

section
variable {P : Program} {X : Ctx} {N : Nat} {r : Option Nat} {Q : Post} {ds : List Deferred} {a : Tmps} {h : AHeap}

theorem St.frz {a' : Tmps} {h' : AHeap} {act : Act} {w : World} (s : St X N ds a h act w) (hn : (dom h').Nodup) (hm : ∀ b o', (b, o') ∈ h' → ∃ o, (b, o) ∈ h ∧ FrzO h h' o o')
    (ha : ∀ t v', lk a' t = some v' → ∃ v, lk a t = some v ∧ FrzA h h' v v') : St X N ds a' h' act w :=
  ⟨s.size, s.defers, fun t v' hv' => by
    obtain ⟨v, hv, f⟩ := ha t v' hv'
    obtain ⟨x, hx, hr⟩ := s.tm t v hv
    exact ⟨x, hx, f.sound s.heap (dom_of_frz hm) x hr⟩, s.heap.frz hn hm⟩

theorem o_frz {ops : Array Oper} {l : List Oper} {a' : Tmps} (h' : AHeap) (hn : (dom h).Nodup → (dom h').Nodup) (hm : ∀ b o', (b, o') ∈ h' → ∃ o, (b, o) ∈ h ∧ FrzO h h' o o')
    (ha : (dom h).Nodup → ∀ t v', lk a' t = some v' → ∃ v, lk a t = some v ∧ FrzA h h' v v') (k : WPs P X N r ops l Q ds a' h') : WPs P X N r ops l Q ds a h :=
  fun act w s n => opsIn_mono (fun e a2 w2 p => post_ext (Ext.frz w (dom_of_frz hm)) p) _ _ _ (k act w (s.frz (hn s.heap.nodup) hm (ha s.heap.nodup)) n)

/-! ### a call -/
def evs (a : Tmps) : List Operand → Option (List AV)
  | [] => some []
  | x :: r => match ev a x with
    | some v => match evs a r with
      | some l => some (v :: l)
      | none => none
    | none => none

theorem St.evs {act : Act} {w : World} (s : St X N ds a h act w) : ∀ {xs : List Operand} {vs : List AV}, evs a xs = some vs → RelAs w.heap (Imm X h w) vs (xs.map act.eval).toArray := by
  intro xs
  induction xs with
  | nil => intro vs hv; cases hv; exact .nil _ _
  | cons x xs ih =>
    intro vs hv
    simp only [Hp.evs] at hv
    cases hx : Hp.ev a x with
    | none => simp [hx] at hv
    | some v =>
      cases hl : Hp.evs a xs with
      | none => simp [hx, hl] at hv
      | some l =>
        simp [hx, hl] at hv; subst hv
        have h1 : RelAs w.heap (Imm X h w) [v] #[act.eval x] := ⟨rfl, fun i c y hc hy => by
          cases i with
          | zero => simp at hc hy; subst hc; subst hy; exact s.ev hx
          | succ i => simp at hc⟩
        have := h1.append (ih hl)
        simpa using this

theorem run_call_value {g : Operand} {xs : Array Operand} {ats : Array TypeId} {ty : TypeId} {f : FuncId} {first caps : Array Value} {act : Act} {w : World} (dst : Option Tmp) (pos : String) (aft : Array Edge) (gd : Option (Nat × Bool))
    (hg : act.eval g = .func (.func f) first caps) (he : Enters P f) :
    (execOp act.eval ⟨dst, .call { callee := .value g, args := xs, argTypes := ats }, ty, pos, aft, gd⟩).run P w = .ok (.enter f (first ++ xs.map act.eval ++ caps)) w := by
  simp [execOp, resolve, Deferred.ofValue, hg, invoke, bind, Sem.bind, pure]
  exact he _ _

/-- The heap splits into what the call may write and the rest. -/
structure Split (h h1 h2 : AHeap) : Prop where
  perm : h.Perm (h1 ++ h2)

theorem Split.none (h : AHeap) : Split h [] h := ⟨List.Perm.refl _⟩
theorem Split.front (h1 h2 : AHeap) : Split (h1 ++ h2) h1 h2 := ⟨List.Perm.refl _⟩

theorem Holds.perm {h' : AHeap} {w : World} (H : Holds X h w) (p : h.Perm h') : Holds X h' w :=
  ⟨(p.map Prod.fst).nodup_iff.1 H.nodup, fun b hb => H.nox b ((p.map Prod.fst).mem_iff.2 hb), H.xlt, X.mono' (fun b hb => ⟨⟨hb.1, fun hm => hb.2.1 ((p.map Prod.fst).mem_iff.2 hm), hb.2.2⟩, fun o h => h⟩) H.gh, fun b o ho => by
    obtain ⟨ob, h1, r⟩ := H.rel b o (p.mem_iff.2 ho)
    exact ⟨ob, h1, r.mono fun b hb => ⟨⟨hb.1, fun hm => hb.2.1 ((p.map Prod.fst).mem_iff.2 hm), hb.2.2⟩, fun o h => h⟩⟩⟩

theorem Ext.perm {h' : AHeap} (w : World) (p : h.Perm h') : Ext h w h' w := ⟨rfl, rfl, rfl, Nat.le_refl _, fun _ _ _ => rfl, fun b _ hb => (p.map Prod.fst).mem_iff.2 hb, fun _ _ => rfl⟩
theorem St.perm {h' : AHeap} {act : Act} {w : World} (s : St X N ds a h act w) (p : h.Perm h') : St X N ds a h' act w := s.keep (Ext.perm w p) (s.heap.perm p)

theorem o_perm {ops : Array Oper} {l : List Oper} {h' : AHeap} (p : h.Perm h') (k : WPs P X N r ops l Q ds a h') : WPs P X N r ops l Q ds a h :=
  fun act w s n => opsIn_mono (fun e a2 w2 q => post_ext (Ext.perm w p) q) _ _ _ (k act w (s.perm p) n)
theorem h_perm {c : Code} {h' : AHeap} (p : h.Perm h') (k : WP P X N r c Q ds a h') : WP P X N r c Q ds a h :=
  fun act w s n => wpIn_mono (k act w (s.perm p) n) fun e a2 w2 q => post_ext (Ext.perm w p) q

/-- What is set aside in a call: what was set aside before, and what the call may not write. -/
abbrev Aside (X : Ctx) (h2 : AHeap) : Ctx := { no := fun b => X.no b ∨ b ∈ dom h2, gh := X.gh, mono := X.mono }

theorem Imm.part {h1 h2 : AHeap} {w : World} {b : Nat} : Imm (Aside X h2) h1 w b ↔ Imm X (h1 ++ h2) w b := by
  simp only [Imm, Aside, dom, List.map_append, List.mem_append, not_or]
  exact ⟨fun ⟨a, b, c, d⟩ => ⟨a, ⟨b, d⟩, c⟩, fun ⟨a, ⟨b, d⟩, c⟩ => ⟨a, b, c, d⟩⟩

theorem Holds.part {h1 h2 : AHeap} {w : World} (H : Holds X (h1 ++ h2) w) : Holds (Aside X h2) h1 w := by
  have hnd : (dom h1 ++ dom h2).Nodup := by have := H.nodup; simpa [dom] using this
  refine ⟨(List.nodup_append.1 hnd).1, fun b hb => ?_, fun b hb => ?_, X.mono' (fun b hb => ⟨Imm.part.2 hb, fun o h => h⟩) H.gh, fun b o ho => ?_⟩
  · rintro (hx | h2m)
    · exact H.nox b (by simp only [dom, List.map_append, List.mem_append]; exact .inl hb) hx
    · exact (List.nodup_append.1 hnd).2.2 b hb b h2m rfl
  · rcases hb with hx | h2m
    · exact H.xlt b hx
    · exact H.lt (by simp only [dom, List.map_append, List.mem_append]; exact .inr h2m)
  · obtain ⟨ob, h3, r⟩ := H.rel b o (List.mem_append.2 (.inl ho))
    refine ⟨ob, h3, r.mono fun b hb => ⟨⟨hb.1, fun hm => hb.2.1 (by simp only [dom, List.map_append, List.mem_append]; exact .inl hm), ?_⟩, fun o h => h⟩⟩
    rintro (hx | h2m)
    · exact hb.2.2 hx
    · exact hb.2.1 (by simp only [dom, List.map_append, List.mem_append]; exact .inr h2m)

/-- Behind a call: what it owns, and what was set aside. -/
theorem Holds.join {h1 h2 h' : AHeap} {w w' : World} (H : Holds X (h1 ++ h2) w) (H' : Holds (Aside X h2) h' w') (e : Ext h1 w h' w') : Holds X (h' ++ h2) w' := by
  have hnd : (dom h1 ++ dom h2).Nodup := by have := H.nodup; simpa [dom] using this
  have hnd2 : (dom h' ++ dom h2).Nodup := by
    refine List.nodup_append.2 ⟨H'.nodup, (List.nodup_append.1 hnd).2.1, fun b hb c hc hbc => ?_⟩
    subst hbc
    exact H'.nox b hb (.inr hc)
  refine ⟨by simpa [dom] using hnd2, fun b hb => ?_, fun b hb => Nat.lt_of_lt_of_le (H.xlt b hb) e.size, X.mono' (hp := w'.heap) (imm := Imm (Aside X h2) h' w') (fun b hb => ⟨Imm.part.1 hb, fun o h => h⟩) H'.gh, fun b o ho => ?_⟩
  · simp only [dom, List.map_append, List.mem_append] at hb
    rcases hb with hb | hb
    · exact fun hx => H'.nox b hb (.inl hx)
    · exact H.nox b (by simp only [dom, List.map_append, List.mem_append]; exact .inr hb)
  · rcases List.mem_append.1 ho with ho | ho
    · obtain ⟨ob, h3, rr⟩ := H'.rel b o ho
      exact ⟨ob, h3, rr.mono fun b hb => ⟨Imm.part.1 hb, fun o h => h⟩⟩
    · obtain ⟨ob, h3, rr⟩ := H.rel b o (List.mem_append.2 (.inr ho))
      have hb2 : b ∈ dom h2 := List.mem_map.2 ⟨_, ho, rfl⟩
      have hblt : b < w.heap.size := (Array.getElem?_eq_some_iff.1 h3).1
      have hb1 : b ∉ dom h1 := fun hm => (List.nodup_append.1 hnd).2.2 b hm b hb2 rfl
      refine ⟨ob, (e.keep b hblt hb1).trans h3, rr.mono fun c hc => ?_⟩
      have hc1 : c ∉ dom h1 := fun hm => hc.2.1 (by simp only [dom, List.map_append, List.mem_append]; exact .inl hm)
      have hc2 : c ∉ dom h2 := fun hm => hc.2.1 (by simp only [dom, List.map_append, List.mem_append]; exact .inr hm)
      refine ⟨⟨Nat.lt_of_lt_of_le hc.1 e.size, fun hm => ?_, hc.2.2⟩, fun o ho => (e.keep c hc.1 hc1).trans ho⟩
      simp only [dom, List.map_append, List.mem_append] at hm
      rcases hm with hm | hm
      · exact hc1 (e.own c hc.1 hm)
      · exact hc2 hm

theorem Ext.join {h1 h2 h' : AHeap} {w w' : World} (e : Ext h1 w h' w') : Ext (h1 ++ h2) w (h' ++ h2) w' := by
  refine ⟨e.os, e.tape, e.output, e.size, fun b hb hn => e.keep b hb fun hm => hn (by simp only [dom, List.map_append, List.mem_append]; exact .inl hm), fun b hb hm => ?_, e.fz⟩
  simp only [dom, List.map_append, List.mem_append] at hm ⊢
  rcases hm with hm | hm
  · exact .inl (e.own b hb hm)
  · exact .inr hm

theorem o_callX {ops : Array Oper} {rest : List Oper} {d : Tmp} {ty : TypeId} {pos : String} {aft : Array Edge} {g : Operand} {xs : Array Operand} {ats : Array TypeId} {f : FuncId} {caps vs : List AV} {h1 h2 : AHeap} {R : AEnd → AHeap → Prop}
    (hg : ev a g = some (.fn f caps)) (hx : evs a xs.toList = some vs) (he : Enters P f) (hN : d < N) (hsp : Split h h1 h2) (hs : FnX P (Aside X h2) f (vs ++ caps) h1 R)
    (k : ∀ v h', R (.ret v) h' → WPs P X N r ops rest Q ds ((d, v) :: a) (h' ++ h2)) (kp : ∀ c h', R (.pan c) h' → Q (.panic c) ds a (h' ++ h2)) :
    WPs P X N r ops (⟨some d, .call { callee := .value g, args := xs, argTypes := ats }, ty, pos, aft, none⟩ :: rest) Q ds a h := by
  refine o_perm hsp.perm ?_
  intro act w s n
  have hrg := s.ev hg
  have hvs := s.evs hx
  generalize hgv : act.eval g = gv at hrg
  cases hrg with
  | fn _ _ cvals hcs hcr =>
    simp only [opsIn, Region.wanted, if_true]
    refine ⟨fun f _ => trivial, ?_⟩
    rw [Oper.semAt_eq _ _ _ (by intro c h; cases h), run_call_value _ _ _ _ hgv he]
    have hargs : RelAs w.heap (Imm (Aside X h2) h1 w) (vs ++ caps) (#[] ++ xs.map act.eval ++ cvals) := by
      have h3 := RelAs.append hvs (⟨hcs, hcr⟩ : RelAs w.heap (Imm X (h1 ++ h2) w) caps cvals)
      have h4 := h3.mono (imm' := Imm (Aside X h2) h1 w) (hp' := w.heap) fun b hb => ⟨Imm.part.2 hb, fun o h => h⟩
      have e : (#[] ++ xs.map act.eval ++ cvals) = (xs.toList.map act.eval).toArray ++ cvals := by
        apply Array.ext'; simp
      rw [e]; exact h4
    have hc := hs w _ s.heap.part hargs
    refine ⟨fun h => (by simp [Fr, Fence.wide] at h), ?_⟩
    refine CallsIn.mono (R := fun e w' => ∃ E h', R E h' ∧ RelE w'.heap (Imm (Aside X h2) h' w') E e ∧ Holds (Aside X h2) h' w' ∧ Ext h1 w h' w') ?_ ?_
    · cases r with
      | none => exact callsIn_wide.2 hc
      | some l => exact CallsIn.inRound l (F := Fence.wide) (callsIn_wide.2 hc)
    · rintro e w' ⟨E, h', hR, hE, hH, hx⟩
      have HJ := s.heap.join hH hx
      have EJ : Ext (h1 ++ h2) w (h' ++ h2) w' := hx.join
      cases hE with
      | ret hv =>
        have hv' : RelA w'.heap (Imm X (h' ++ h2) w') _ _ := hv.mono fun b hb => ⟨Imm.part.1 hb, fun o h => h⟩
        exact opsIn_mono (fun e a2 w2 p => post_ext EJ p) _ _ _ (k _ h' hR _ _ (s.put EJ HJ hN hv') n)
      | pan c => exact ⟨ds, a, h' ++ h2, kp c h' hR, s.keep EJ HJ, EJ⟩

theorem o_callE {ops : Array Oper} {rest : List Oper} {d : Tmp} {ty : TypeId} {pos : String} {aft : Array Edge} {g : Operand} {xs : Array Operand} {ats : Array TypeId} {f : FuncId} {caps vs : List AV} {h1 h2 : AHeap} {R : AEnd → AHeap → Prop}
    (hg : ev a g = some (.fn f caps)) (hx : evs a xs.toList = some vs) (he : Enters P f) (hN : d < N) (hsp : Split h h1 h2) (hs : FnE P f (vs ++ caps) h1 R)
    (k : ∀ v h', R (.ret v) h' → WPs P X N r ops rest Q ds ((d, v) :: a) (h' ++ h2)) (kp : ∀ c h', R (.pan c) h' → Q (.panic c) ds a (h' ++ h2)) :
    WPs P X N r ops (⟨some d, .call { callee := .value g, args := xs, argTypes := ats }, ty, pos, aft, none⟩ :: rest) Q ds a h :=
  o_callX hg hx he hN hsp (hs _) k kp

theorem o_call {ops : Array Oper} {rest : List Oper} {d : Tmp} {ty : TypeId} {pos : String} {aft : Array Edge} {g : Operand} {xs : Array Operand} {ats : Array TypeId} {f : FuncId} {caps vs : List AV} {h1 h2 : AHeap} {R : AV → AHeap → Prop}
    (hg : ev a g = some (.fn f caps)) (hx : evs a xs.toList = some vs) (he : Enters P f) (hN : d < N) (hsp : Split h h1 h2) (hs : Fc P f (vs ++ caps) h1 R)
    (k : ∀ v h', R v h' → WPs P X N r ops rest Q ds ((d, v) :: a) (h' ++ h2)) :
    WPs P X N r ops (⟨some d, .call { callee := .value g, args := xs, argTypes := ats }, ty, pos, aft, none⟩ :: rest) Q ds a h :=
  o_callE hg hx he hN hsp hs (fun v h' ⟨_, e, hr⟩ => by cases e; exact k v h' hr) (fun c h' ⟨_, e, _⟩ => by cases e)

/-- A call of a function that only computes. -/
theorem o_call1 {ops : Array Oper} {rest : List Oper} {d : Tmp} {ty : TypeId} {pos : String} {aft : Array Edge} {g : Operand} {xs : Array Operand} {ats : Array TypeId} {f : FuncId} {caps vs : List AV} {v : AV}
    (hg : ev a g = some (.fn f caps)) (hx : evs a xs.toList = some vs) (he : Enters P f) (hN : d < N) (hs : Fn1 P f (vs ++ caps) v) (k : WPs P X N r ops rest Q ds ((d, v) :: a) h) :
    WPs P X N r ops (⟨some d, .call { callee := .value g, args := xs, argTypes := ats }, ty, pos, aft, none⟩ :: rest) Q ds a h :=
  o_call hg hx he hN (Split.none h) hs fun v' h' hr => by obtain ⟨rfl, rfl⟩ := hr; exact k
end
end Go.Proofs.YtnoicbajhlpndaaGreat.Hp
/- Rules for the operations that only compute: moves, tests, arithmetic, comparisons, parts of aggregates. -/
namespace Go.Proofs.YtnoicbajhlpndaaGreat.Hp
open Go Go.RowKit Go.Shelf
set_option linter.unusedVariables false
set_option linter.unusedSimpArgs false

/-- What a type is: an aggregate or not, and how many cells it has. -/
def tyK (P : Program) (t : TypeId) : Option (Bool × Nat) :=
  match P.underlying t, P.info? t with
  | some (.struct _), some i => some (true, i.size)
  | some (.array _ _), some i => some (true, i.size)
  | some _, some i => some (false, i.size)
  | _, _ => none
class TyC (P : Program) (t : TypeId) (g : outParam Bool) (n : outParam Nat) : Prop where
  out : tyK P t = some (g, n)
/-- A struct's fields: offset, number of cells, aggregate or not. -/
def fldK (P : Program) : List Field → Option (List (Nat × Nat × Bool))
  | [] => some []
  | f :: r => match tyK P f.type, fldK P r with
    | some k, some l => some ((f.offset, k.2, k.1) :: l)
    | _, _ => none
def fieldsK (P : Program) (t : TypeId) : Option (List (Nat × Nat × Bool)) :=
  match P.underlying t with
  | some (.struct fs) => fldK P fs.toList
  | _ => none
theorem fldK_get {P : Program} : ∀ {l : List Field} {fs : List (Nat × Nat × Bool)}, fldK P l = some fs → fs.length = l.length ∧ ∀ (i : Nat) (e : Nat × Nat × Bool), fs[i]? = some e → ∃ fd, l[i]? = some fd ∧ fd.offset = e.1 ∧ tyK P fd.type = some (e.2.2, e.2.1) := by
  intro l
  induction l with
  | nil => intro fs h; simp only [fldK, Option.some.injEq] at h; subst h; simp
  | cons f r ih =>
    intro fs h
    simp only [fldK] at h
    cases hk : tyK P f.type with
    | none => simp [hk] at h
    | some k =>
      cases hl : fldK P r with
      | none => simp [hk, hl] at h
      | some l2 =>
        simp only [hk, hl, Option.some.injEq] at h
        subst h
        obtain ⟨h1, h2⟩ := ih hl
        refine ⟨by simp [h1], fun i e he => ?_⟩
        cases i with
        | zero => simp only [List.getElem?_cons_zero, Option.some.injEq] at he; subst he; exact ⟨f, rfl, rfl, hk⟩
        | succ i => exact h2 i e (by simpa using he)
theorem fieldsK_get {P : Program} {t : TypeId} {fs : List (Nat × Nat × Bool)} (h : fieldsK P t = some fs) : ∃ fields, P.underlying t = some (.struct fields) ∧ fs.length = fields.size ∧
    ∀ (i : Nat) (e : Nat × Nat × Bool), fs[i]? = some e → ∃ fd, fields[i]? = some fd ∧ fd.offset = e.1 ∧ tyK P fd.type = some (e.2.2, e.2.1) := by
  unfold fieldsK at h
  split at h
  · rename_i fields hu
    obtain ⟨h1, h2⟩ := fldK_get h
    exact ⟨fields, hu, by simpa using h1, fun i e he => by obtain ⟨fd, h3, h4⟩ := h2 i e he; exact ⟨fd, by simpa using h3, h4⟩⟩
  · cases h
class StructC (P : Program) (t : TypeId) (fs : outParam (List (Nat × Nat × Bool))) : Prop where
  out : fieldsK P t = some fs
class EntC (P : Program) (f : FuncId) : Prop where
  out : Enters P f

theorem run_underlying0 {P : Program} {t : TypeId} {d : TypeDesc} (h : P.underlying t = some d) (w : World) : (underlying t).run P w = .ok d w := by
  simp [underlying, program, Sem.run, bind, Sem.bind, pure, h]

theorem tyK_agg {P : Program} {t : TypeId} {n : Nat} (h : tyK P t = some (true, n)) (w : World) : (isAgg t).run P w = .ok true w ∧ (sizeOf t).run P w = .ok n w := by
  unfold tyK at h
  cases hu : P.underlying t with
  | none => simp [hu] at h
  | some d =>
    cases hi : P.info? t with
    | none => cases d <;> simp [hu, hi] at h
    | some i =>
      have h2 : (sizeOf t).run P w = .ok i.size w := by simp [sizeOf, typeInfo, program, Sem.run, bind, Sem.bind, pure, hi]
      have h1 : (isAgg t).run P w = .ok (match d with | .struct _ | .array _ _ => true | _ => false) w := by
        cases d <;> simp [isAgg, go_sem, run_underlying0 hu]
      cases d <;> simp [hu, hi] at h <;> (subst h; exact ⟨h1, h2⟩)
theorem tyK_one {P : Program} {t : TypeId} {n : Nat} (h : tyK P t = some (false, n)) (w : World) : (isAgg t).run P w = .ok false w ∧ (sizeOf t).run P w = .ok n w := by
  unfold tyK at h
  cases hu : P.underlying t with
  | none => simp [hu] at h
  | some d =>
    cases hi : P.info? t with
    | none => cases d <;> simp [hu, hi] at h
    | some i =>
      have h2 : (sizeOf t).run P w = .ok i.size w := by simp [sizeOf, typeInfo, program, Sem.run, bind, Sem.bind, pure, hi]
      have h1 : (isAgg t).run P w = .ok (match d with | .struct _ | .array _ _ => true | _ => false) w := by
        cases d <;> simp [isAgg, go_sem, run_underlying0 hu]
      cases d <;> simp [hu, hi] at h <;> (subst h; exact ⟨h1, h2⟩)

theorem run_bind {α β : Type} {P : Program} {x : Sem α} {f : α → Sem β} {w w' : World} {v : α} (h : x.run P w = .ok v w') : (x >>= f).run P w = (f v).run P w' := by
  rw [Sem.run_bind, h]; rfl
theorem run_pure {α : Type} {P : Program} (v : α) (w : World) : (pure v : Sem α).run P w = .ok v w := rfl

section
variable {P : Program} {X : Ctx} {N : Nat} {r : Option Nat} {Q : Post} {ds : List Deferred} {a : Tmps} {h : AHeap}
variable {ops : Array Oper} {rest : List Oper} {d : Tmp} {ty : TypeId} {pos : String} {aft : Array Edge}

/-- A value that is computed out of temporaries alone. -/
theorem o_pure {op : Op} {v : AV} (hN : d < N) (hdef : ∀ c, op ≠ .defer c)
    (hrun : ∀ act w, St X N ds a h act w → ∃ x, (execOp act.eval ⟨some d, op, ty, pos, aft, none⟩).run P w = .ok (.value x) w ∧ RelA w.heap (Imm X h w) v x)
    (k : WPs P X N r ops rest Q ds ((d, v) :: a) h) : WPs P X N r ops (⟨some d, op, ty, pos, aft, none⟩ :: rest) Q ds a h :=
  o_run (fun v' h' => v' = v ∧ h' = h) hN hdef (fun act w s => by
    obtain ⟨x, hx, hr⟩ := hrun act w s
    exact ⟨x, w, v, h, ⟨rfl, rfl⟩, hx, hr, s.heap, Ext.refl _ _⟩) fun v' h' ⟨e1, e2⟩ => by subst e1; subst e2; exact k

theorem o_move {x : Operand} {v : AV} (hx : ev a x = some v) (hN : d < N) (k : WPs P X N r ops rest Q ds ((d, v) :: a) h) : WPs P X N r ops (⟨some d, .move x, ty, pos, aft, none⟩ :: rest) Q ds a h :=
  o_pure hN (by intro c e; cases e) (fun act w s => ⟨act.eval x, rfl, s.ev hx⟩) k
theorem o_assign {x : Operand} {v : AV} (hx : ev a x = some v) (hN : d < N) (k : WPs P X N r ops rest Q ds ((d, v) :: a) h) : WPs P X N r ops (⟨some d, .assign x, ty, pos, aft, none⟩ :: rest) Q ds a h :=
  o_pure hN (by intro c e; cases e) (fun act w s => ⟨act.eval x, rfl, s.ev hx⟩) k

theorem ev_raw {act : Act} {w : World} (s : St X N ds a h act w) {x : Operand} {v : Value} (hx : ev a x = some (.p (.raw v))) : act.eval x = v := by
  have hr := s.ev hx
  generalize act.eval x = y at hr
  cases hr with | p hp => cases hp; rfl

theorem o_pickt {c x y : Operand} {t : Bool} {v : AV} (hc : ev a c = some (B t)) (ht : t = true) (hx : ev a x = some v) (hN : d < N) (k : WPs P X N r ops rest Q ds ((d, v) :: a) h) :
    WPs P X N r ops (⟨some d, .pick c x y, ty, pos, aft, none⟩ :: rest) Q ds a h := by
  subst ht
  exact o_pure hN (by intro c e; cases e) (fun act w s => by
    have hv := ev_raw s hc
    exact ⟨act.eval x, by simp [execOp, hv, asBool, bind, Sem.bind, pure, Sem.run], s.ev hx⟩) k
theorem o_pickf {c x y : Operand} {t : Bool} {v : AV} (hc : ev a c = some (B t)) (ht : t = false) (hx : ev a y = some v) (hN : d < N) (k : WPs P X N r ops rest Q ds ((d, v) :: a) h) :
    WPs P X N r ops (⟨some d, .pick c x y, ty, pos, aft, none⟩ :: rest) Q ds a h := by
  subst ht
  exact o_pure hN (by intro c e; cases e) (fun act w s => by
    have hv := ev_raw s hc
    exact ⟨act.eval y, by simp [execOp, hv, asBool, bind, Sem.bind, pure, Sem.run], s.ev hx⟩) k

theorem o_not {t0 : TypeId} {x : Operand} {b : Bool} (hx : ev a x = some (B b)) (hN : d < N) (k : WPs P X N r ops rest Q ds ((d, B (!b)) :: a) h) :
    WPs P X N r ops (⟨some d, .unOp .not t0 x, ty, pos, aft, none⟩ :: rest) Q ds a h :=
  o_pure hN (by intro c e; cases e) (fun act w s => by
    have hv := ev_raw s hx
    exact ⟨.bool !b, by simp [execOp, hv, Op.unary, bind, Sem.bind, pure, Sem.run], .p (.raw _)⟩) k

def in64 (n : Int) : Prop := -9223372036854775808 ≤ n ∧ n ≤ 9223372036854775807
theorem wrap_in {n : Int} (h : in64 n) : IntKind.i64.wrap n = n := by rw [IntKind.wrap_i64]; unfold in64 at h; omega

theorem o_neg {t0 : TypeId} {x : Operand} {n : Int} (hx : ev a x = some (I n)) (hb : in64 (-n)) (hN : d < N) (k : WPs P X N r ops rest Q ds ((d, I (-n)) :: a) h) :
    WPs P X N r ops (⟨some d, .unOp .neg t0 x, ty, pos, aft, none⟩ :: rest) Q ds a h :=
  o_pure hN (by intro c e; cases e) (fun act w s => by
    have hv := ev_raw s hx
    refine ⟨.int .i64 (-n), ?_, .p (.raw _)⟩
    have : IntKind.i64.wrap (0 - n) = -n := by rw [Int.zero_sub]; exact wrap_in hb
    simp [execOp, hv, Op.unary, Op.intArith, bind, Sem.bind, pure, Sem.run] at this ⊢; exact this) k

theorem o_add {t0 t1 : TypeId} {x y : Operand} {m n : Int} (hx : ev a x = some (I m)) (hy : ev a y = some (I n)) (hb : in64 (m + n)) (hN : d < N) (k : WPs P X N r ops rest Q ds ((d, I (m + n)) :: a) h) :
    WPs P X N r ops (⟨some d, .binOp .add t0 x y t1, ty, pos, aft, none⟩ :: rest) Q ds a h :=
  o_pure hN (by intro c e; cases e) (fun act w s => by
    have hv := ev_raw s hx; have hu := ev_raw s hy
    refine ⟨.int .i64 (m + n), ?_, .p (.raw _)⟩
    simp [execOp, hv, hu, eqGuard, binOp, Op.intArith, bind, Sem.bind, pure, Sem.run, wrap_in hb]) k
theorem o_sub {t0 t1 : TypeId} {x y : Operand} {m n : Int} (hx : ev a x = some (I m)) (hy : ev a y = some (I n)) (hb : in64 (m - n)) (hN : d < N) (k : WPs P X N r ops rest Q ds ((d, I (m - n)) :: a) h) :
    WPs P X N r ops (⟨some d, .binOp .sub t0 x y t1, ty, pos, aft, none⟩ :: rest) Q ds a h :=
  o_pure hN (by intro c e; cases e) (fun act w s => by
    have hv := ev_raw s hx; have hu := ev_raw s hy
    refine ⟨.int .i64 (m - n), ?_, .p (.raw _)⟩
    simp [execOp, hv, hu, eqGuard, binOp, Op.intArith, bind, Sem.bind, pure, Sem.run, wrap_in hb]) k
theorem o_mul {t0 t1 : TypeId} {x y : Operand} {m n : Int} (hx : ev a x = some (I m)) (hy : ev a y = some (I n)) (hb : in64 (m * n)) (hN : d < N) (k : WPs P X N r ops rest Q ds ((d, I (m * n)) :: a) h) :
    WPs P X N r ops (⟨some d, .binOp .mul t0 x y t1, ty, pos, aft, none⟩ :: rest) Q ds a h :=
  o_pure hN (by intro c e; cases e) (fun act w s => by
    have hv := ev_raw s hx; have hu := ev_raw s hy
    refine ⟨.int .i64 (m * n), ?_, .p (.raw _)⟩
    simp [execOp, hv, hu, eqGuard, binOp, Op.intArith, bind, Sem.bind, pure, Sem.run, wrap_in hb]) k
theorem o_quo {t0 t1 : TypeId} {x y : Operand} {m n : Int} (hx : ev a x = some (I m)) (hy : ev a y = some (I n)) (h0 : n ≠ 0) (hb : in64 (m.tdiv n)) (hN : d < N) (k : WPs P X N r ops rest Q ds ((d, I (m.tdiv n)) :: a) h) :
    WPs P X N r ops (⟨some d, .binOp .quo t0 x y t1, ty, pos, aft, none⟩ :: rest) Q ds a h :=
  o_pure hN (by intro c e; cases e) (fun act w s => by
    have hv := ev_raw s hx; have hu := ev_raw s hy
    refine ⟨.int .i64 (m.tdiv n), ?_, .p (.raw _)⟩
    simp [execOp, hv, hu, eqGuard, binOp, Op.intDiv, h0, bind, Sem.bind, pure, Sem.run, wrap_in hb]) k
theorem o_rem {t0 t1 : TypeId} {x y : Operand} {m n : Int} (hx : ev a x = some (I m)) (hy : ev a y = some (I n)) (h0 : n ≠ 0) (hN : d < N) (k : WPs P X N r ops rest Q ds ((d, I (m.tmod n)) :: a) h) :
    WPs P X N r ops (⟨some d, .binOp .rem t0 x y t1, ty, pos, aft, none⟩ :: rest) Q ds a h :=
  o_pure hN (by intro c e; cases e) (fun act w s => by
    have hv := ev_raw s hx; have hu := ev_raw s hy
    refine ⟨.int .i64 (m.tmod n), ?_, .p (.raw _)⟩
    simp [execOp, hv, hu, eqGuard, binOp, Op.intDiv, h0, bind, Sem.bind, pure, Sem.run]) k
/-- A shift to the right by as much as is known. -/
theorem o_shr {t0 t1 : TypeId} {x y : Operand} {m n : Int} (hx : ev a x = some (I m)) (hy : ev a y = some (I n)) (h0 : 0 ≤ n) (h64 : n ≤ 64) (hN : d < N) (k : WPs P X N r ops rest Q ds ((d, I (m / 2 ^ n.toNat)) :: a) h) :
    WPs P X N r ops (⟨some d, .binOp .shr t0 x y t1, ty, pos, aft, none⟩ :: rest) Q ds a h :=
  o_pure hN (by intro c e; cases e) (fun act w s => by
    have hv := ev_raw s hx; have hu := ev_raw s hy
    refine ⟨.int .i64 (m / 2 ^ n.toNat), ?_, .p (.raw _)⟩
    have h1 : ¬ n < 0 := by omega
    have h2 : min n.toNat IntKind.i64.bits = n.toNat := by simp [IntKind.bits]; omega
    have h3 : m.fdiv (2 ^ n.toNat) = m / 2 ^ n.toNat := Int.fdiv_eq_ediv_of_nonneg _ (Int.le_of_lt (Int.pow_pos (by omega)))
    simp [execOp, hv, hu, eqGuard, binOp, Op.shift, h1, h2, h3, bind, Sem.bind, pure, Sem.run]) k
theorem o_shl {t0 t1 : TypeId} {x y : Operand} {m n : Int} (hx : ev a x = some (I m)) (hy : ev a y = some (I n)) (h0 : 0 ≤ n) (h64 : n ≤ 64) (hb : in64 (m * 2 ^ n.toNat)) (hN : d < N) (k : WPs P X N r ops rest Q ds ((d, I (m * 2 ^ n.toNat)) :: a) h) :
    WPs P X N r ops (⟨some d, .binOp .shl t0 x y t1, ty, pos, aft, none⟩ :: rest) Q ds a h :=
  o_pure hN (by intro c e; cases e) (fun act w s => by
    have hv := ev_raw s hx; have hu := ev_raw s hy
    refine ⟨.int .i64 (m * 2 ^ n.toNat), ?_, .p (.raw _)⟩
    have h1 : ¬ n < 0 := by omega
    have h2 : min n.toNat IntKind.i64.bits = n.toNat := by simp [IntKind.bits]; omega
    simp [execOp, hv, hu, eqGuard, binOp, Op.shift, h1, h2, bind, Sem.bind, pure, Sem.run, wrap_in hb]) k
/-- The bits of two numbers, combined. -/
def bits64 (op : BinOp) (x y : Int) : Int :=
  let a := BitVec.ofInt 64 x
  let b := BitVec.ofInt 64 y
  IntKind.i64.wrap (match op with | .and => (a &&& b).toNat | .or => (a ||| b).toNat | .xor => (a ^^^ b).toNat | _ => (a &&& ~~~b).toNat)
theorem o_bits {o : BinOp} {t0 t1 : TypeId} {x y : Operand} {m n : Int} (ho : o = .and ∨ o = .or ∨ o = .xor ∨ o = .andNot) (hx : ev a x = some (I m)) (hy : ev a y = some (I n)) (hN : d < N) (k : WPs P X N r ops rest Q ds ((d, I (bits64 o m n)) :: a) h) :
    WPs P X N r ops (⟨some d, .binOp o t0 x y t1, ty, pos, aft, none⟩ :: rest) Q ds a h :=
  o_pure hN (by intro c e; cases e) (fun act w s => by
    have hv := ev_raw s hx; have hu := ev_raw s hy
    refine ⟨.int .i64 (bits64 o m n), ?_, .p (.raw _)⟩
    rcases ho with rfl | rfl | rfl | rfl <;> (simp only [execOp, hv, hu, eqGuard, binOp]; rfl)) k

/-- A comparison of two numbers. -/
def cmpK : BinOp → Int → Int → Option Bool
  | .eql, x, y => some (decide (x = y))
  | .neq, x, y => some (!decide (x = y))
  | .lss, x, y => some (decide (x < y))
  | .leq, x, y => some (decide (x ≤ y))
  | .gtr, x, y => some (decide (y < x))
  | .geq, x, y => some (decide (y ≤ x))
  | _, _, _ => none
theorem o_cmp {o : BinOp} {t0 t1 : TypeId} {x y : Operand} {m n : Int} {b : Bool} (hx : ev a x = some (I m)) (hy : ev a y = some (I n)) (ho : cmpK o m n = some b) (hN : d < N) (k : WPs P X N r ops rest Q ds ((d, B b) :: a) h) :
    WPs P X N r ops (⟨some d, .binOp o t0 x y t1, ty, pos, aft, none⟩ :: rest) Q ds a h :=
  o_pure hN (by intro c e; cases e) (fun act w s => by
    have hv := ev_raw s hx; have hu := ev_raw s hy
    refine ⟨.bool b, ?_, .p (.raw _)⟩
    cases o <;> simp only [cmpK, Option.some.injEq, reduceCtorEq] at ho <;> subst ho <;>
      (simp only [execOp, hv, hu, eqGuard, binOp]; rfl)) k

theorem o_extract {x : Operand} {i : Nat} {cs : List AV} {v : AV} (hx : ev a x = some (.tup cs)) (hi : cs[i]? = some v) (hN : d < N) (k : WPs P X N r ops rest Q ds ((d, v) :: a) h) :
    WPs P X N r ops (⟨some d, .extract x i, ty, pos, aft, none⟩ :: rest) Q ds a h :=
  o_pure hN (by intro c e; cases e) (fun act w s => by
    have hr := s.ev hx
    generalize hv : act.eval x = y at hr
    cases hr with
    | tup _ vals hs hrr =>
      have hlt : i < vals.size := by rw [hs]; exact (List.getElem?_eq_some_iff.1 hi).1
      refine ⟨vals[i], ?_, hrr i v _ hi (by simp [hlt])⟩
      simp [execOp, hv, Instr.extract, hlt, bind, Sem.bind, pure, Sem.run]) k

theorem o_makeFunc {f : FuncId} {cs : Array Operand} {vs : List AV} (hx : evs a cs.toList = some vs) (hN : d < N) (k : WPs P X N r ops rest Q ds ((d, .fn f vs) :: a) h) :
    WPs P X N r ops (⟨some d, .makeFunc (.func f) #[] cs, ty, pos, aft, none⟩ :: rest) Q ds a h :=
  o_pure hN (by intro c e; cases e) (fun act w s => by
    have hr := s.evs hx
    refine ⟨.func (.func f) #[] (cs.map act.eval), by simp [execOp, Instr.makeFunc, bind, Sem.bind, pure, Sem.run], .fn f vs _ ?_ ?_⟩
    · have := hr.1; simpa using this
    · intro i c v h1 h2; exact hr.2 i c v h1 (by simpa using h2)) k
end
end Go.Proofs.YtnoicbajhlpndaaGreat.Hp
/- Rules for the operations that read memory: loads, addresses of fields and elements, parts of aggregates, lengths, cuts of slices. -/
namespace Go.Proofs.YtnoicbajhlpndaaGreat.Hp
open Go Go.RowKit Go.Shelf
set_option linter.unusedVariables false
set_option linter.unusedSimpArgs false

theorem run_load_agg {P : Program} {t : TypeId} {n : Nat} (ht : tyK P t = some (true, n)) {w : World} {b off : Nat} {cells : Array Value} {ty : TypeId} {fz : Nat × Nat} (hb : w.heap[b]? = some (.cells cells ty fz)) (hs : off + n ≤ cells.size) :
    (loadVar t ⟨b, off, none⟩).run P w = .ok (.agg (cells.extract off (off + n))) w := by
  obtain ⟨h1, h2⟩ := tyK_agg ht w
  have hl := run_loadCells_list (P := P) w ⟨b, off, none⟩ (cells.extract off (off + n)).toList (fun j v hj => by
    rw [Addr.add_lit, cell_of_row w b _ cells ty fz hb]
    simp only [Array.toList_extract, List.extract_eq_take_drop] at hj
    rw [List.getElem?_take] at hj
    split at hj
    · rw [List.getElem?_drop] at hj; simpa using hj
    · cases hj)
  have hlen : (cells.extract off (off + n)).toList.length = n := by simp; omega
  rw [hlen, Array.toArray_toList] at hl
  unfold loadVar
  rw [run_bind h1]
  simp only [if_true]
  rw [run_bind h2, run_bind hl]
  rfl

theorem run_load_one {P : Program} {t : TypeId} {n : Nat} (ht : tyK P t = some (false, n)) {w : World} {b off : Nat} {cells : Array Value} {ty : TypeId} {fz : Nat × Nat} (hb : w.heap[b]? = some (.cells cells ty fz)) {v : Value} (hv : cells[off]? = some v) :
    (loadVar t ⟨b, off, none⟩).run P w = .ok v w := by
  obtain ⟨h1, h2⟩ := tyK_one ht w
  unfold loadVar
  rw [run_bind h1]
  have hc : w.cell? ⟨b, off, none⟩ = some v := by rw [cell_of_row w b off cells ty fz hb]; exact hv
  simp [load, Sem.run, hc]

/-- What a load of a type gives. -/
def ldA : Bool → Nat → List AV → Option AV
  | true, n, cs => bif Nat.ble n cs.length then some (.agg (cs.take n)) else none
  | false, _, [] => none
  | false, _, c :: _ => some c
def ldP : Bool → Nat → List PV → Option AV
  | true, n, cs => bif Nat.ble n cs.length then some (.agg ((cs.take n).map .p)) else none
  | false, _, [] => none
  | false, _, c :: _ => some (.p c)

theorem load_rel {P : Program} {t : TypeId} {g : Bool} {n : Nat} (ht : tyK P t = some (g, n)) {w : World} {imm : Nat → Prop} {b off : Nat} {cells : Array Value} {ty : TypeId} {fz : Nat × Nat} (hb : w.heap[b]? = some (.cells cells ty fz))
    {cs : List AV} (hs : off + cs.length ≤ cells.size) (hr : ∀ (i : Nat) (c : AV) (v : Value), cs[i]? = some c → cells[off + i]? = some v → RelA w.heap imm c v) {v : AV} (hv : ldA g n cs = some v) :
    ∃ x, (loadVar t ⟨b, off, none⟩).run P w = .ok x w ∧ RelA w.heap imm v x := by
  cases g with
  | true =>
    simp only [ldA] at hv
    cases hn : Nat.ble n cs.length with
    | false => simp [hn] at hv
    | true =>
      simp only [hn, cond_true, Option.some.injEq] at hv
      have hn' := Nat.le_of_ble_eq_true hn
      subst hv
      refine ⟨_, run_load_agg ht hb (by omega), .agg _ _ (by simp; omega) fun i c v hc hv => ?_⟩
      have hi : i < n := by
        have := (List.getElem?_eq_some_iff.1 hc).1
        simp at this; omega
      rw [List.getElem?_take, if_pos hi] at hc
      refine hr i c v hc ?_
      rw [Array.getElem?_extract] at hv
      split at hv
      · exact hv
      · cases hv
  | false =>
    cases cs with
    | nil => cases hv
    | cons c cs =>
      simp only [ldA, Option.some.injEq] at hv; subst hv
      have hlt : off < cells.size := by simp at hs; omega
      refine ⟨cells[off], run_load_one ht hb (by simp [hlt]), hr 0 c _ rfl (by simp [hlt])⟩

theorem ldP_ldA {g : Bool} {n : Nat} {cs : List PV} {v : AV} (h : ldP g n cs = some v) : ldA g n (cs.map .p) = some v := by
  cases g with
  | true =>
    simp only [ldP] at h
    cases hn : Nat.ble n cs.length with
    | false => simp [hn] at h
    | true => simp only [hn, cond_true] at h; simp [ldA, hn, h, List.map_take] at h ⊢; exact h
  | false => cases cs with
    | nil => cases h
    | cons c cs => simpa [ldP, ldA] using h

section
variable {P : Program} {X : Ctx} {N : Nat} {r : Option Nat} {Q : Post} {ds : List Deferred} {a : Tmps} {h : AHeap}
variable {ops : Array Oper} {rest : List Oper} {d : Tmp} {ty : TypeId} {pos : String} {aft : Array Edge}

theorem St.box {act : Act} {w : World} (s : St X N ds a h act w) {i b : Nat} {bty : TypeId} {cs : List AV} (hh : h[i]? = some (b, .box bty cs)) :
    ∃ cells, w.heap[b]? = some (.cells cells bty (0, 0)) ∧ cells.size = cs.length ∧ ∀ (i : Nat) (c : AV) (v : Value), cs[i]? = some c → cells[i]? = some v → RelA w.heap (Imm X h w) c v := by
  obtain ⟨ob, h1, h2⟩ := s.heap.rel b _ (List.mem_of_getElem? hh)
  cases h2 with
  | box _ _ cells hs hr => exact ⟨cells, h1, hs, hr⟩
theorem St.arr {act : Act} {w : World} (s : St X N ds a h act w) {i b : Nat} {bty : TypeId} {k cap : Nat} {es : List (List PV)} (hh : h[i]? = some (b, .arr bty k es cap)) :
    ∃ cells, w.heap[b]? = some (.cells cells bty (0, 0)) ∧ cells.size = cap * k ∧ es.length ≤ cap ∧ (∀ e ∈ es, e.length = k) ∧ ∀ (i j : Nat) (e : List PV) (c : PV) (v : Value), es[i]? = some e → e[j]? = some c → cells[i * k + j]? = some v → RelP w.heap (Imm X h w) c v := by
  obtain ⟨ob, h1, h2⟩ := s.heap.rel b _ (List.mem_of_getElem? hh)
  cases h2 with
  | arr _ _ _ _ cells hs hc hk hr => exact ⟨cells, h1, hs, hc, hk, hr⟩

theorem exec_load {t : TypeId} {x : Operand} {act : Act} {w : World} {ad : Addr} {v : Value} (hx : act.eval x = .pointer (some ad)) (hl : (loadVar t ad).run P w = .ok v w) :
    (execOp act.eval ⟨some d, .load t x, ty, pos, aft, none⟩).run P w = .ok (.value v) w := by
  simp only [execOp, Instr.loadAt, hx, Instr.sureAddr]
  rw [run_bind (v := v) (w' := w)]
  · rfl
  · rw [run_bind (run_pure ad w)]; exact hl

theorem o_load {t : TypeId} {x : Operand} {b off : Nat} {bty : TypeId} {cs : List AV} {v : AV} {g : Bool} {n : Nat} (i : Nat) (hx : ev a x = some (.ptr b off)) (hh : h[i]? = some (b, .box bty cs)) [ht : TyC P t g n] (hv : ldA g n (cs.drop off) = some v) (ho : Nat.ble off cs.length = true)
    (hN : d < N) (k : WPs P X N r ops rest Q ds ((d, v) :: a) h) : WPs P X N r ops (⟨some d, .load t x, ty, pos, aft, none⟩ :: rest) Q ds a h :=
  o_pure hN (by intro c e; cases e) (fun act w s => by
    obtain ⟨cells, hb, hs, hr⟩ := s.box hh
    have hr0 := s.ev hx
    generalize hxv : act.eval x = y at hr0
    cases hr0
    have ho' := Nat.le_of_ble_eq_true ho
    obtain ⟨z, h1, h2⟩ := load_rel ht.out hb (off := off) (cs := cs.drop off) (by simp; omega) (imm := Imm X h w) (fun i c v hc hv => hr (off + i) c v (by rw [List.getElem?_drop] at hc; exact hc) hv) hv
    exact ⟨z, exec_load hxv h1, h2⟩) k

theorem o_loadv {t : TypeId} {x : Operand} {cs : List PV} {v : AV} {g : Bool} {n : Nat} (hx : ev a x = some (.vptr cs)) [ht : TyC P t g n] (hv : ldP g n cs = some v)
    (hN : d < N) (k : WPs P X N r ops rest Q ds ((d, v) :: a) h) : WPs P X N r ops (⟨some d, .load t x, ty, pos, aft, none⟩ :: rest) Q ds a h :=
  o_pure hN (by intro c e; cases e) (fun act w s => by
    have hr0 := s.ev hx
    generalize hxv : act.eval x = y at hr0
    cases hr0 with
    | vptr _ b off cells bty fz hb hi hs hr =>
      obtain ⟨z, h1, h2⟩ := load_rel ht.out hb (off := off) (cs := cs.map .p) (by simp; omega) (imm := Imm X h w) (fun i c v hc hv => by
        rw [List.getElem?_map] at hc
        cases hci : cs[i]? with
        | none => simp [hci] at hc
        | some c' => simp only [hci, Option.map_some, Option.some.injEq] at hc; subst hc; exact .p (hr i c' v hci hv)) (ldP_ldA hv)
      exact ⟨z, exec_load hxv h1, h2⟩) k

theorem o_loade {t : TypeId} {x : Operand} {b kk ix j : Nat} {bty : TypeId} {es : List (List PV)} {cap : Nat} {e : List PV} {v : AV} {g : Bool} {n : Nat} (i : Nat) (hx : ev a x = some (.eptr b kk ix j)) (hh : h[i]? = some (b, .arr bty kk es cap)) (he : es[ix]? = some e) [ht : TyC P t g n]
    (hv : ldP g n (e.drop j) = some v) (ho : Nat.ble j e.length = true) (hN : d < N) (k : WPs P X N r ops rest Q ds ((d, v) :: a) h) : WPs P X N r ops (⟨some d, .load t x, ty, pos, aft, none⟩ :: rest) Q ds a h :=
  o_pure hN (by intro c e; cases e) (fun act w s => by
    obtain ⟨cells, hb, hs, hc, hk, hr⟩ := s.arr hh
    have hr0 := s.ev hx
    generalize hxv : act.eval x = y at hr0
    cases hr0
    have ho' := Nat.le_of_ble_eq_true ho
    have hlt : ix < es.length := (List.getElem?_eq_some_iff.1 he).1
    have hek : e.length = kk := hk e (List.mem_of_getElem? he)
    have hsz : ix * kk + kk ≤ cells.size := by rw [hs, ← Nat.succ_mul]; exact Nat.mul_le_mul_right kk (by omega)
    obtain ⟨z, h1, h2⟩ := load_rel ht.out hb (off := ix * kk + j) (cs := (e.drop j).map .p) (by simp; omega) (imm := Imm X h w) (fun i c v hc hv => by
      rw [List.getElem?_map, List.getElem?_drop] at hc
      cases hci : e[j + i]? with
      | none => simp [hci] at hc
      | some c' =>
        simp only [hci, Option.map_some, Option.some.injEq] at hc; subst hc
        exact .p (hr ix (j + i) e c' v he hci (by rw [← Nat.add_assoc]; exact hv))) (ldP_ldA hv)
    exact ⟨z, exec_load hxv h1, h2⟩) k

/-! ### addresses of fields -/
theorem run_fieldPlace {ad : Addr} {b off : Nat} (had : ad = ⟨b, off, none⟩) {fd : Field} {g : Bool} {n : Nat} (ht : tyK P fd.type = some (g, n)) (hn : n ≠ 0) (w : World) : (fieldPlace ad fd).run P w = .ok ⟨b, off + fd.offset, none⟩ w := by
  subst had
  have h2 : (sizeOf fd.type).run P w = .ok n w := by
    cases g
    · exact (tyK_one ht w).2
    · exact (tyK_agg ht w).2
  unfold fieldPlace
  rw [run_bind h2, if_neg hn, run_pure, Addr.add_lit]

theorem exec_fieldAddr {t : TypeId} {x : Operand} {f : Nat} {fs : List (Nat × Nat × Bool)} (hs : fieldsK P t = some fs) {fo n : Nat} {g : Bool} (hf : fs[f]? = some (fo, n, g)) (hn : n ≠ 0) {act : Act} {w : World} {b off : Nat} (hx : act.eval x = .pointer (some ⟨b, off, none⟩)) :
    (execOp act.eval ⟨some d, .fieldAddr t x f, ty, pos, aft, none⟩).run P w = .ok (.value (.pointer (some ⟨b, off + fo, none⟩))) w := by
  obtain ⟨fields, hu, _, hfs⟩ := fieldsK_get hs
  obtain ⟨fd, h1, h2, h3⟩ := hfs f _ hf
  simp only at h2 h3
  subst h2
  simp only [execOp, Instr.fieldAt, hx, Instr.sureAddr]
  rw [run_bind (v := .pointer (some ⟨b, off + fd.offset, none⟩)) (w' := w)]
  · rfl
  · rw [run_bind (run_underlying0 hu w)]
    simp only [h1]
    rw [run_bind (run_pure _ w), run_bind (run_fieldPlace rfl h3 hn w)]; rfl

theorem o_faddr {t : TypeId} {x : Operand} {b off f fo n : Nat} {g : Bool} {fs : List (Nat × Nat × Bool)} (hx : ev a x = some (.ptr b off)) [hs : StructC P t fs] (hf : fs[f]? = some (fo, n, g)) (hn : n ≠ 0) (hN : d < N) (k : WPs P X N r ops rest Q ds ((d, .ptr b (off + fo)) :: a) h) :
    WPs P X N r ops (⟨some d, .fieldAddr t x f, ty, pos, aft, none⟩ :: rest) Q ds a h :=
  o_pure hN (by intro c e; cases e) (fun act w s => by
    have hr0 := s.ev hx
    generalize hxv : act.eval x = y at hr0
    cases hr0
    exact ⟨_, exec_fieldAddr hs.out hf hn hxv, .ptr _ _⟩) k
theorem o_faddre {t : TypeId} {x : Operand} {b kk i j f fo n : Nat} {g : Bool} {fs : List (Nat × Nat × Bool)} (hx : ev a x = some (.eptr b kk i j)) [hs : StructC P t fs] (hf : fs[f]? = some (fo, n, g)) (hn : n ≠ 0) (hN : d < N) (k : WPs P X N r ops rest Q ds ((d, .eptr b kk i (j + fo)) :: a) h) :
    WPs P X N r ops (⟨some d, .fieldAddr t x f, ty, pos, aft, none⟩ :: rest) Q ds a h :=
  o_pure hN (by intro c e; cases e) (fun act w s => by
    have hr0 := s.ev hx
    generalize hxv : act.eval x = y at hr0
    cases hr0
    exact ⟨_, exec_fieldAddr hs.out hf hn hxv, by rw [Nat.add_assoc]; exact .eptr b kk i (j + fo)⟩) k
theorem relA_vptr_drop {hp : Array Obj} {imm : Nat → Prop} {cs : List PV} {b off : Nat} (hr : RelA hp imm (.vptr cs) (.pointer (some ⟨b, off, none⟩))) {fo : Nat} (hf : fo ≤ cs.length) : RelA hp imm (.vptr (cs.drop fo)) (.pointer (some ⟨b, off + fo, none⟩)) := by
  cases hr with
  | vptr _ _ _ cells bty fz hb hi hs hr =>
    exact .vptr _ b (off + fo) cells bty fz hb hi (by simp; omega) fun j c v hc hv => hr (fo + j) c v (by rw [List.getElem?_drop] at hc; exact hc) (by rw [← Nat.add_assoc]; exact hv)
theorem relA_vptr_addr {hp : Array Obj} {imm : Nat → Prop} {cs : List PV} {v : Value} (hr : RelA hp imm (.vptr cs) v) : ∃ b off, v = .pointer (some ⟨b, off, none⟩) := by
  cases hr; exact ⟨_, _, rfl⟩
theorem o_faddrv {t : TypeId} {x : Operand} {cs : List PV} {f fo n : Nat} {g : Bool} {fs : List (Nat × Nat × Bool)} (hx : ev a x = some (.vptr cs)) [hs : StructC P t fs] (hf : fs[f]? = some (fo, n, g)) (hn : n ≠ 0) (hl : Nat.ble fo cs.length = true) (hN : d < N) (k : WPs P X N r ops rest Q ds ((d, .vptr (cs.drop fo)) :: a) h) :
    WPs P X N r ops (⟨some d, .fieldAddr t x f, ty, pos, aft, none⟩ :: rest) Q ds a h :=
  o_pure hN (by intro c e; cases e) (fun act w s => by
    have hr0 := s.ev hx
    obtain ⟨b, off, hxv⟩ := relA_vptr_addr hr0
    rw [hxv] at hr0
    exact ⟨_, exec_fieldAddr hs.out hf hn hxv, relA_vptr_drop hr0 (Nat.le_of_ble_eq_true hl)⟩) k

end
end Go.Proofs.YtnoicbajhlpndaaGreat.Hp
/- Rules for indexes, lengths and cuts of slices and arrays. -/
namespace Go.Proofs.YtnoicbajhlpndaaGreat.Hp
open Go Go.RowKit Go.Shelf
set_option linter.unusedVariables false
set_option linter.unusedSimpArgs false

/-- A slice type: its element type, that one's cells and bytes. -/
def slK (P : Program) (t : TypeId) : Option (Nat × Nat × Nat) :=
  match P.underlying t with
  | some (.slice e) => match P.info? e with
    | some i => match i.zero with
      | some z => bif Nat.beq z.cells.size i.size && Nat.ble 1 i.size && Nat.ble i.bytes 1000 then some (e, i.size, i.bytes) else none
      | none => none
    | none => none
  | _ => none
class SliceC (P : Program) (t : TypeId) (e k by_ : outParam Nat) : Prop where
  out : slK P t = some (e, k, by_)
def arK (P : Program) (t : TypeId) : Option (Nat × Nat × Nat) :=
  match P.underlying t with
  | some (.array n e) => match P.info? e with
    | some i => some (n, e, i.size)
    | none => none
  | _ => none
class ArrC (P : Program) (t : TypeId) (len e k : outParam Nat) : Prop where
  out : arK P t = some (len, e, k)

theorem slK_get {P : Program} {t e k by_ : Nat} (h : slK P t = some (e, k, by_)) : P.underlying t = some (.slice e) ∧ ∃ i z, P.info? e = some i ∧ i.size = k ∧ i.bytes = by_ ∧ i.zero = some z ∧ z.cells.size = k ∧ 0 < k ∧ by_ ≤ 1000 := by
  unfold slK at h
  split at h
  · rename_i e' hu
    split at h
    · rename_i i hi
      split at h
      · rename_i z hz
        cases hc : (Nat.beq z.cells.size i.size && Nat.ble 1 i.size && Nat.ble i.bytes 1000) with
        | false => simp [hc] at h
        | true =>
          rw [hc] at h
          simp only [cond_true, Option.some.injEq, Prod.mk.injEq] at h
          obtain ⟨rfl, rfl, rfl⟩ := h
          simp only [Bool.and_eq_true, Nat.beq_eq, Nat.ble_eq] at hc
          exact ⟨hu, i, z, hi, rfl, rfl, hz, hc.1.1, hc.1.2, hc.2⟩
      · cases h
    · cases h
  · cases h
theorem arK_get {P : Program} {t n e k : Nat} (h : arK P t = some (n, e, k)) : P.underlying t = some (.array n e) ∧ ∃ i, P.info? e = some i ∧ i.size = k := by
  unfold arK at h
  split at h
  · rename_i n' e' hu
    split at h
    · rename_i i hi
      simp only [Option.some.injEq, Prod.mk.injEq] at h
      obtain ⟨rfl, rfl, rfl⟩ := h
      exact ⟨hu, i, hi, rfl⟩
    · cases h
  · cases h
theorem run_sizeOf0 {P : Program} {t : TypeId} {i : TypeInfo} (h : P.info? t = some i) (w : World) : (sizeOf t).run P w = .ok i.size w := by
  simp [sizeOf, typeInfo, program, Sem.run, bind, Sem.bind, pure, h]

section
variable {P : Program} {X : Ctx} {N : Nat} {r : Option Nat} {Q : Post} {ds : List Deferred} {a : Tmps} {h : AHeap}
variable {ops : Array Oper} {rest : List Oper} {d : Tmp} {ty : TypeId} {pos : String} {aft : Array Edge}

theorem run_indexAt_slice {t e k by_ : Nat} (hs : slK P t = some (e, k, by_)) {b off len cap : Nat} {i : Int} (h0 : 0 ≤ i) (h1 : i < len) (w : World) :
    (Instr.indexAt t (.slice (some ⟨b, off, none⟩) len cap) (.int .i64 i)).run P w = .ok (.pointer (some ⟨b, off + i.toNat * k, none⟩)) w := by
  obtain ⟨hu, ii, z, hi, rfl, _⟩ := slK_get hs
  simp [Instr.indexAt, asIntOf, go_sem, run_underlying0 hu, run_sizeOf0 hi, h0, h1, Sem.run_bind, Sem.run_pure]
theorem run_indexAt_arr {t n e k : Nat} (hs : arK P t = some (n, e, k)) {b off : Nat} {i : Int} (h0 : 0 ≤ i) (h1 : i < n) (w : World) :
    (Instr.indexAt t (.pointer (some ⟨b, off, none⟩)) (.int .i64 i)).run P w = .ok (.pointer (some ⟨b, off + i.toNat * k, none⟩)) w := by
  obtain ⟨hu, ii, hi, rfl⟩ := arK_get hs
  simp [Instr.indexAt, asIntOf, Instr.sureAddr, go_sem, run_underlying0 hu, run_sizeOf0 hi, h0, h1, Sem.run_bind, Sem.run_pure]

theorem exec_v {op : Op} {act : Act} {w w' : World} {v : Value} {m : Sem Value} (he : execOp act.eval ⟨some d, op, ty, pos, aft, none⟩ = (do pure (.value (← m)))) (hm : m.run P w = .ok v w') :
    (execOp act.eval ⟨some d, op, ty, pos, aft, none⟩).run P w = .ok (.value v) w' := by
  rw [he, run_bind hm]; rfl

/-- The address of an element of plain data. -/
theorem o_idxv {t : TypeId} {x y : Operand} {es : List (List PV)} {f : Bool} {i : Int} {e : List PV} {te k by_ : Nat} (hx : ev a x = some (V es f)) (hy : ev a y = some (I i)) [hs : SliceC P t te k by_] (h0 : 0 ≤ i) (he : es[i.toNat]? = some e) (hlen : e.length = k) (hN : d < N)
    (kk : WPs P X N r ops rest Q ds ((d, .vptr e) :: a) h) : WPs P X N r ops (⟨some d, .indexAddr t x y, ty, pos, aft, none⟩ :: rest) Q ds a h :=
  o_pure hN (by intro c e; cases e) (fun act w s => by
    have hr0 := s.ev hx
    have hyv := ev_raw s hy
    generalize hxv : act.eval x = z at hr0
    have hlt : i.toNat < es.length := (List.getElem?_eq_some_iff.1 he).1
    cases hr0 with
    | p hp =>
      cases hp with
      | nil => simp at hlt
      | vs _ _ b off k' cap cells bty fz hb hi hf hc hsz hk hr =>
        have hk' : k' = k := by rw [← hlen]; exact (hk e (List.mem_of_getElem? he)).symm
        subst hk'
        refine ⟨.pointer (some ⟨b, off + i.toNat * k', none⟩), exec_v (m := Instr.indexAt t (act.eval x) (act.eval y)) rfl (by rw [hxv, hyv]; exact run_indexAt_slice hs.out h0 (by omega) w), ?_⟩
        have hm : i.toNat * k' + k' ≤ es.length * k' := by rw [← Nat.succ_mul]; exact Nat.mul_le_mul_right k' (by omega)
        exact .vptr e b _ cells bty fz hb hi (by omega) fun j c v hcj hv => hr i.toNat j e c v he hcj hv) kk

/-- The address of an element of a slice that is owned. -/
theorem o_idxo {t : TypeId} {x y : Operand} {b k off len cap : Nat} {i : Int} {te by_ : Nat} (hx : ev a x = some (.os b k off len cap)) (hy : ev a y = some (I i)) [hs : SliceC P t te k by_] (h0 : 0 ≤ i) (h1 : i < len) (hN : d < N)
    (kk : WPs P X N r ops rest Q ds ((d, .eptr b k (off + i.toNat) 0) :: a) h) : WPs P X N r ops (⟨some d, .indexAddr t x y, ty, pos, aft, none⟩ :: rest) Q ds a h :=
  o_pure hN (by intro c e; cases e) (fun act w s => by
    have hr0 := s.ev hx
    have hyv := ev_raw s hy
    generalize hxv : act.eval x = z at hr0
    cases hr0
    refine ⟨_, exec_v (m := Instr.indexAt t (act.eval x) (act.eval y)) rfl (by rw [hxv, hyv]; exact run_indexAt_slice hs.out h0 h1 w), ?_⟩
    rw [← Nat.add_mul]
    exact .eptr b k (off + i.toNat) 0) kk

/-- The address of an element of an array that lies in a box, or among plain data. -/
theorem o_idxa {t : TypeId} {x y : Operand} {b off : Nat} {i : Int} {n te k : Nat} (hx : ev a x = some (.ptr b off)) (hy : ev a y = some (I i)) [hs : ArrC P t n te k] (h0 : 0 ≤ i) (h1 : i < n) (hN : d < N)
    (kk : WPs P X N r ops rest Q ds ((d, .ptr b (off + i.toNat * k)) :: a) h) : WPs P X N r ops (⟨some d, .indexAddr t x y, ty, pos, aft, none⟩ :: rest) Q ds a h :=
  o_pure hN (by intro c e; cases e) (fun act w s => by
    have hr0 := s.ev hx
    have hyv := ev_raw s hy
    generalize hxv : act.eval x = z at hr0
    cases hr0
    exact ⟨_, exec_v (m := Instr.indexAt t (act.eval x) (act.eval y)) rfl (by rw [hxv, hyv]; exact run_indexAt_arr hs.out h0 h1 w), .ptr _ _⟩) kk
theorem o_idxav {t : TypeId} {x y : Operand} {cs : List PV} {i : Int} {n te k : Nat} (hx : ev a x = some (.vptr cs)) (hy : ev a y = some (I i)) [hs : ArrC P t n te k] (h0 : 0 ≤ i) (h1 : i < n) (hl : i.toNat * k ≤ cs.length) (hN : d < N)
    (kk : WPs P X N r ops rest Q ds ((d, .vptr (cs.drop (i.toNat * k))) :: a) h) : WPs P X N r ops (⟨some d, .indexAddr t x y, ty, pos, aft, none⟩ :: rest) Q ds a h :=
  o_pure hN (by intro c e; cases e) (fun act w s => by
    have hr0 := s.ev hx
    have hyv := ev_raw s hy
    obtain ⟨b, off, hxv⟩ := relA_vptr_addr hr0
    rw [hxv] at hr0
    exact ⟨_, exec_v (m := Instr.indexAt t (act.eval x) (act.eval y)) rfl (by rw [hxv, hyv]; exact run_indexAt_arr hs.out h0 h1 w), relA_vptr_drop hr0 hl⟩) kk

theorem run_len {t te k by_ : Nat} (hs : slK P t = some (te, k, by_)) (tt : TypeId) (ad : Option Addr) (n c : Nat) (w : World) : (Builtin.len_ #[t] tt #[.slice ad n c]).run P w = .ok (.int .i64 n) w := by
  obtain ⟨hu, _⟩ := slK_get hs
  simp [Builtin.len_, go_sem, run_underlying0 hu, goInt, Sem.run_bind]
theorem o_len {t : TypeId} {x : Operand} {es : List (List PV)} {f : Bool} {te k by_ : Nat} (hx : ev a x = some (V es f)) [hs : SliceC P t te k by_] (hN : d < N) (kk : WPs P X N r ops rest Q ds ((d, I es.length) :: a) h) :
    WPs P X N r ops (⟨some d, .call { callee := .builtin .len, args := #[x], argTypes := #[t] }, ty, pos, aft, none⟩ :: rest) Q ds a h :=
  o_pure hN (by intro c e; cases e) (fun act w s => by
    have hr0 := s.ev hx
    generalize hxv : act.eval x = z at hr0
    refine ⟨.int .i64 es.length, exec_v (m := Builtin.len_ #[t] ty (#[x].map act.eval)) rfl ?_, .p (.raw _)⟩
    simp only [List.map_toArray, List.map_cons, List.map_nil, hxv]
    cases hr0 with
    | p hp => cases hp <;> exact run_len hs.out _ _ _ _ w) kk
theorem o_leno {t : TypeId} {x : Operand} {b k off len cap : Nat} {te by_ : Nat} (hx : ev a x = some (.os b k off len cap)) [hs : SliceC P t te k by_] (hN : d < N) (kk : WPs P X N r ops rest Q ds ((d, I len) :: a) h) :
    WPs P X N r ops (⟨some d, .call { callee := .builtin .len, args := #[x], argTypes := #[t] }, ty, pos, aft, none⟩ :: rest) Q ds a h :=
  o_pure hN (by intro c e; cases e) (fun act w s => by
    have hr0 := s.ev hx
    generalize hxv : act.eval x = z at hr0
    refine ⟨.int .i64 len, exec_v (m := Builtin.len_ #[t] ty (#[x].map act.eval)) rfl ?_, .p (.raw _)⟩
    simp only [List.map_toArray, List.map_cons, List.map_nil, hxv]
    cases hr0
    exact run_len hs.out _ _ _ _ w) kk

/-- The bounds of a cut: what isn't given is 0, or the end. -/
def optI (a : Tmps) : Option Operand → Option (Option Int)
  | none => some none
  | some x => match ev a x with
    | some (.p (.raw (.int .i64 n))) => some (some n)
    | _ => none
theorem optI_some {act : Act} {w : World} (s : St X N ds a h act w) {o : Option Operand} {n : Int} (ho : optI a o = some (some n)) : o.map act.eval = some (.int .i64 n) := by
  cases o with
  | none => simp [optI] at ho
  | some x =>
    simp only [optI] at ho
    split at ho
    · rename_i m hx
      simp only [Option.some.injEq] at ho
      subst ho
      simp [ev_raw s hx]
    · cases ho
theorem optI_none {act : Act} {o : Option Operand} (ho : optI a o = some none) : o.map act.eval = none := by
  cases o with
  | none => rfl
  | some x => simp only [optI] at ho; split at ho <;> simp at ho

/-- 's[o1:hi]', 's[o1:hi:mx]' at plain data, within its length. -/
theorem o_cut {t : TypeId} {x : Operand} {o1 o2 o3 : Option Operand} {es : List (List PV)} {f : Bool} {te k by_ : Nat} {l n : Nat} {o1' hi' mx' : Option Int} (hx : ev a x = some (V es f)) [hs : SliceC P t te k by_]
    (hlo : optI a o1 = some o1') (hhi : optI a o2 = some hi') (hmx : optI a o3 = some mx') (hl : o1'.getD 0 = l) (hn : hi'.getD es.length = n) (hm : mx' = none ∨ mx' = some n) (hmh : mx' = none ∨ hi' ≠ none) (h1 : l ≤ n) (h2 : n ≤ es.length) (hke : ∀ e ∈ es, e.length = k) (hN : d < N)
    (kk : WPs P X N r ops rest Q ds ((d, V ((es.drop l).take (n - l)) (mx'.isSome || f && Nat.beq n es.length)) :: a) h) :
    WPs P X N r ops (⟨some d, .slice t x o1 o2 o3, ty, pos, aft, none⟩ :: rest) Q ds a h :=
  o_pure hN (by intro c e; cases e) (fun act w s => by
    have hr0 := s.ev hx
    generalize hxv : act.eval x = z at hr0
    obtain ⟨hu, ii, zz, hi2, rfl, _, _, _, hpos, _⟩ := slK_get hs.out
    have bounds : ∀ (cap : Nat), es.length ≤ cap → (Instr.sliceBounds true es.length cap (o1.map act.eval) (o2.map act.eval) (o3.map act.eval)).run P w = .ok (l, n, if mx' = none then cap else n) w := by
      intro cap hcap
      have elo : o1.map act.eval = o1'.map fun n => .int .i64 n := by cases o1' with | none => exact optI_none hlo | some m => exact optI_some s hlo
      have ehi : o2.map act.eval = hi'.map fun n => .int .i64 n := by cases hi' with | none => exact optI_none hhi | some m => exact optI_some s hhi
      have emx : o3.map act.eval = mx'.map fun n => .int .i64 n := by cases mx' with | none => exact optI_none hmx | some m => exact optI_some s hmx
      rw [elo, ehi, emx]
      cases mx' with
      | none =>
        cases hi' with
        | none =>
          simp only [Option.getD_none, Int.natCast_inj] at hn
          subst hn
          cases o1' with
          | none => simp only [Option.getD_none] at hl; obtain rfl : l = 0 := by omega
                    simp [Instr.sliceBounds, go_sem, Sem.run_bind, Sem.run_pure]
          | some q => simp only [Option.getD_some] at hl; subst hl
                      simp [Instr.sliceBounds, Instr.sliceBound, asIntOf, go_sem, Sem.run_bind, Sem.run_pure, h1]
        | some q =>
          simp only [Option.getD_some] at hn; subst hn
          have hnc : n ≤ cap := by omega
          cases o1' with
          | none => simp only [Option.getD_none] at hl; obtain rfl : l = 0 := by omega
                    simp [Instr.sliceBounds, Instr.sliceBound, asIntOf, go_sem, Sem.run_bind, Sem.run_pure, hnc]
          | some q2 => simp only [Option.getD_some] at hl; subst hl
                       simp [Instr.sliceBounds, Instr.sliceBound, asIntOf, go_sem, Sem.run_bind, Sem.run_pure, hnc, h1]
      | some mm =>
        rcases hm with hm | hm
        · cases hm
        · cases hm
          cases hi' with
          | none => rcases hmh with hmh | hmh <;> simp at hmh
          | some q =>
            simp only [Option.getD_some] at hn; subst hn
            have hnc : n ≤ cap := by omega
            cases o1' with
            | none => simp only [Option.getD_none] at hl; obtain rfl : l = 0 := by omega
                      simp [Instr.sliceBounds, Instr.sliceBound, asIntOf, go_sem, Sem.run_bind, Sem.run_pure, hnc]
            | some q2 => simp only [Option.getD_some] at hl; subst hl
                         simp [Instr.sliceBounds, Instr.sliceBound, asIntOf, go_sem, Sem.run_bind, Sem.run_pure, hnc, h1]
    have hlen : ((es.drop l).take (n - l)).length = n - l := by simp; omega
    cases hr0 with
    | p hp =>
      cases hp with
      | nil =>
        simp only [List.length_nil, Nat.le_zero_eq] at h2
        subst h2
        have hl0 : l = 0 := by omega
        subst hl0
        refine ⟨.slice none 0 0, exec_v (m := Instr.sliceAt t (act.eval x) (o1.map act.eval) (o2.map act.eval) (o3.map act.eval)) rfl ?_, ?_⟩
        · rw [hxv]
          have hb := bounds 0 (by simp)
          simp only [List.length_nil] at hb
          simp only [Instr.sliceAt]
          rw [run_bind (run_underlying0 hu w)]
          simp only [Instr.slice]
          rw [run_bind (run_underlying0 hu w)]
          simp only
          rw [run_bind hb]
          simp only
          rw [run_bind (run_sizeOf0 hi2 w)]
          simp only [Option.map_none, ite_self, Nat.sub_self]
          cases mx' <;> simp [Sem.run, pure]
        · simp only [List.drop_nil, List.take_nil]; exact .p (.nil _)
      | vs _ _ b off k' cap cells bty fz hb hi hf hc hsz hk hr =>
        obtain ⟨m, hm'⟩ : ∃ m, m = (if mx' = none then cap else n) := ⟨_, rfl⟩
        have hnm : n ≤ m := by rw [hm']; split <;> omega
        refine ⟨.slice (if m = l then some ⟨b, off, none⟩ else some ⟨b, off + l * ii.size, none⟩) (n - l) (m - l), exec_v (m := Instr.sliceAt t (act.eval x) (o1.map act.eval) (o2.map act.eval) (o3.map act.eval)) rfl ?_, ?_⟩
        · rw [hxv]
          have hbb := bounds cap hc
          rw [← hm'] at hbb
          simp only [Instr.sliceAt]
          rw [run_bind (run_underlying0 hu w)]
          simp only [Instr.slice]
          rw [run_bind (run_underlying0 hu w)]
          simp only
          rw [run_bind hbb]
          simp only
          rw [run_bind (run_sizeOf0 hi2 w)]
          simp only [Option.map_some, Addr.add_lit]
          rfl
        · have hfull : (mx'.isSome || f && Nat.beq n es.length) = true → m - l = n - l := by
            intro hh
            cases mx' with
            | some q => simp at hm'; omega
            | none =>
              simp only [Option.isSome_none, Bool.false_or, Bool.and_eq_true, Nat.beq_eq] at hh
              simp only [if_true] at hm'
              have := hf hh.1; omega
          by_cases hml : m = l
          · have : n - l = 0 := by omega
            rw [if_pos hml]
            have hnil : (es.drop l).take (n - l) = [] := by rw [this]; rfl
            rw [hnil, this]
            have := RelP.vs (hp := w.heap) (imm := Imm X h w) [] (mx'.isSome || f && Nat.beq n es.length) b off k' (m - l) cells bty fz hb hi (by intro hh; have := hfull hh; simp; omega) (by simp) (by simp; omega) (by simp) (by simp)
            exact .p this
          · rw [if_neg hml]
            by_cases he0 : n - l = 0
            · have hnil : (es.drop l).take (n - l) = [] := by rw [he0]; rfl
              rw [hnil, he0]
              by_cases hsz2 : off + l * ii.size ≤ cells.size
              · have := RelP.vs (hp := w.heap) (imm := Imm X h w) [] (mx'.isSome || f && Nat.beq n es.length) b (off + l * ii.size) k' (m - l) cells bty fz hb hi (by intro hh; have := hfull hh; simp; omega) (by simp) (by simp; omega) (by simp) (by simp)
                exact .p this
              · exfalso
                by_cases hes : es.length = 0
                · have : l = 0 := by omega
                  subst this; simp at hsz2; omega
                · have hkk : k' = ii.size := by
                    cases es with
                    | nil => simp at hes
                    | cons e _ => rw [← hk e (by simp)]; exact hke e (by simp)
                  have : l * ii.size ≤ es.length * ii.size := Nat.mul_le_mul_right _ (by omega)
                  rw [hkk] at hsz
                  omega
            · have hkk : k' = ii.size := by
                cases es with
                | nil => simp at h2; omega
                | cons e _ => rw [← hk e (by simp)]; exact hke e (by simp)
              subst hkk
              have := RelP.vs (hp := w.heap) (imm := Imm X h w) ((es.drop l).take (n - l)) (mx'.isSome || f && Nat.beq n es.length) b (off + l * ii.size) ii.size (m - l) cells bty fz hb hi (by rw [hlen]; exact hfull) (by omega)
                (by
                  rw [hlen]
                  have : l * ii.size + (n - l) * ii.size ≤ es.length * ii.size := by rw [← Nat.add_mul]; exact Nat.mul_le_mul_right _ (by omega)
                  omega)
                (fun e he => hk e (List.mem_of_mem_drop (List.mem_of_mem_take he)))
                (fun i j e c v he hcj hv => by
                  rw [List.getElem?_take] at he
                  split at he
                  · rw [List.getElem?_drop] at he
                    exact hr (l + i) j e c v he hcj (by rw [Nat.add_mul, ← Nat.add_assoc]; exact hv)
                  · cases he)
              rw [hlen] at this
              exact .p this) kk
end
end Go.Proofs.YtnoicbajhlpndaaGreat.Hp
/- Rules for the operations that write memory: new variables, stores. -/
namespace Go.Proofs.YtnoicbajhlpndaaGreat.Hp
open Go Go.RowKit Go.Shelf
set_option linter.unusedVariables false
set_option linter.unusedSimpArgs false

def PV.isCell : PV → Bool
  | .raw v => v.oneCell'
  | .vs _ _ => true
def AV.isCell : AV → Bool
  | .p v => v.isCell
  | .agg _ | .tup _ | .junk => false
  | _ => true
/-- The cells of a value. -/
def cellsOf : AV → Option (List AV)
  | .agg cs => bif cs.all AV.isCell then some cs else none
  | .p v => bif v.isCell then some [.p v] else none
  | .tup _ | .junk => none
  | v => some [v]
def pcells : List AV → Option (List PV)
  | [] => some []
  | .p v :: r => match pcells r with
    | some l => some (v :: l)
    | none => none
  | _ :: _ => none
def setR {α : Type} (cs : List α) (off : Nat) (vs : List α) : List α := cs.take off ++ vs ++ cs.drop (off + vs.length)

theorem RelP.isCell {hp : Array Obj} {imm : Nat → Prop} {c : PV} {v : Value} (h : RelP hp imm c v) (hc : c.isCell = true) : v.oneCell' = true := by
  cases h with
  | raw v => exact hc
  | nil f => rfl
  | vs => rfl
theorem RelA.isCell {hp : Array Obj} {imm : Nat → Prop} {c : AV} {v : Value} (h : RelA hp imm c v) (hc : c.isCell = true) : v.oneCell' = true := by
  cases h with
  | p hp => exact hp.isCell hc
  | agg => cases hc
  | tup => cases hc
  | junk => cases hc
  | _ => rfl
theorem cells_one {v : Value} (h : v.oneCell' = true) : v.cells = #[v] := by
  cases v <;> first | rfl | cases h

/-- Cells and what is known of them. -/
def Rels (hp : Array Obj) (imm : Nat → Prop) (cs : List AV) (vals : List Value) : Prop :=
  vals.length = cs.length ∧ ∀ (i : Nat) (c : AV) (v : Value), cs[i]? = some c → vals[i]? = some v → RelA hp imm c v

theorem cellsOf_rel {hp : Array Obj} {imm : Nat → Prop} {v : AV} {x : Value} (h : RelA hp imm v x) {vs : List AV} (hc : cellsOf v = some vs) : Rels hp imm vs x.cells.toList ∧ ∀ u ∈ x.cells.toList, u.oneCell' = true := by
  have one : ∀ {v : AV}, RelA hp imm v x → v.isCell = true → Rels hp imm [v] x.cells.toList ∧ ∀ u ∈ x.cells.toList, u.oneCell' = true := by
    intro v hv hcell
    have h1 := hv.isCell hcell
    rw [cells_one h1]
    refine ⟨⟨rfl, fun i c y hc hy => ?_⟩, by simpa using h1⟩
    cases i with
    | zero => simp at hc hy; subst hc; subst hy; exact hv
    | succ i => simp at hc
  cases h with
  | agg cs vals hs hr =>
    simp only [cellsOf] at hc
    cases hall : cs.all AV.isCell with
    | false => simp [hall] at hc
    | true =>
      simp only [hall, cond_true, Option.some.injEq] at hc
      subst hc
      refine ⟨⟨by simpa [Value.cells] using hs, fun i c y h1 h2 => hr i c y h1 (by simpa [Value.cells] using h2)⟩, fun u hu => ?_⟩
      simp only [Value.cells] at hu
      obtain ⟨i, hi, rfl⟩ := List.getElem_of_mem hu
      have hi' : i < cs.length := by simpa [hs] using hi
      exact (hr i cs[i] _ (by simp [hi']) (by simp)).isCell (by
        have := List.all_eq_true.1 hall cs[i] (List.getElem_mem hi'); exact this)
  | p hp =>
    simp only [cellsOf] at hc
    rename_i pv
    cases hall : pv.isCell with
    | false => simp [hall] at hc
    | true =>
      simp only [hall, cond_true, Option.some.injEq] at hc
      subst hc
      exact one (.p hp) hall
  | tup => cases hc
  | junk => cases hc
  | ptr b off => cases hc; exact one (.ptr b off) rfl
  | eptr b k i j => cases hc; exact one (.eptr b k i j) rfl
  | vptr cs b off cells ty fz hb hi hs hr => cases hc; exact one (.vptr cs b off cells ty fz hb hi hs hr) rfl
  | os b k off len cap => cases hc; exact one (.os b k off len cap) rfl
  | fn f caps vals hs hr => cases hc; exact one (.fn f caps vals hs hr) rfl
  | yl l => cases hc; exact one (.yl l) rfl

theorem pcells_map {vs : List AV} {ps : List PV} (h : pcells vs = some ps) : vs = ps.map .p := by
  induction vs generalizing ps with
  | nil => cases h; rfl
  | cons v r ih =>
    cases v with
    | p v =>
      simp only [pcells] at h
      cases hr : pcells r with
      | none => simp [hr] at h
      | some l => simp only [hr, Option.some.injEq] at h; subst h; simp [ih hr]
    | _ => cases h

theorem setR_length {α : Type} {cs vs : List α} {off : Nat} (h : off + vs.length ≤ cs.length) : (setR cs off vs).length = cs.length := by
  simp [setR]; omega
theorem setR_get {α : Type} {cs vs : List α} {off : Nat} (h : off + vs.length ≤ cs.length) (i : Nat) : (setR cs off vs)[i]? = if off ≤ i ∧ i < off + vs.length then vs[i - off]? else cs[i]? := by
  unfold setR
  by_cases h1 : i < off
  · rw [List.append_assoc, List.getElem?_append_left (by simp; omega), List.getElem?_take, if_pos h1, if_neg (by omega)]
  · by_cases h2 : i < off + vs.length
    · rw [List.getElem?_append_left (by simp; omega), List.getElem?_append_right (by simp; omega), if_pos ⟨by omega, h2⟩]
      simp; congr 1; omega
    · rw [List.getElem?_append_right (by simp; omega), if_neg (by omega), List.getElem?_drop]
      congr 1; simp; omega

theorem Rels.setR {hp : Array Obj} {imm : Nat → Prop} {cs vs : List AV} {cells news : List Value} (h : Rels hp imm cs cells) (k : Rels hp imm vs news) {off : Nat} (ho : off + vs.length ≤ cs.length) : Rels hp imm (Hp.setR cs off vs) (Hp.setR cells off news) := by
  refine ⟨by rw [setR_length ho, setR_length (by rw [k.1, h.1]; exact ho), h.1], fun i c v hc hv => ?_⟩
  rw [setR_get ho] at hc
  rw [setR_get (by rw [k.1, h.1]; exact ho), k.1] at hv
  split at hc
  · rename_i hi
    rw [if_pos hi] at hv
    exact k.2 _ c v hc hv
  · rename_i hi
    rw [if_neg hi] at hv
    exact h.2 i c v hc hv

/-! ### one block changes; a block comes -/
structure Chg (w w' : World) (b : Nat) : Prop where
  os : w'.os = w.os
  tape : w'.tape = w.tape
  output : w'.output = w.output
  size : w'.heap.size = w.heap.size
  other : ∀ c, c ≠ b → w'.heap[c]? = w.heap[c]?

theorem chg_setRow (w : World) (g : Nat) (cs : Array Value) : Chg w (w.setRow g cs) g := ⟨rfl, rfl, rfl, by simp [World.setRow], fun c hc => setRow_other w g c cs hc⟩

theorem dom_set {h : AHeap} {i b : Nat} {o o' : OB} (hi : h[i]? = some (b, o)) : dom (h.set i (b, o')) = dom h := by
  unfold dom
  rw [List.map_set]
  apply List.ext_getElem?
  intro j
  rw [List.getElem?_set]
  by_cases hj : i = j
  · subst hj
    obtain ⟨hl, hv⟩ := List.getElem?_eq_some_iff.1 hi
    simp [hl, hv]
  · rw [if_neg hj]

theorem imm_set {X : Ctx} {h : AHeap} {i b : Nat} {o o' : OB} (hi : h[i]? = some (b, o)) {w w' : World} (c : Chg w w' b) : ∀ x, Imm X h w x → Imm X (h.set i (b, o')) w' x ∧ ∀ ob, w.heap[x]? = some ob → w'.heap[x]? = some ob := by
  intro x hx
  have hb : b ∈ dom h := List.mem_map.2 ⟨_, List.mem_of_getElem? hi, rfl⟩
  refine ⟨⟨by rw [c.size]; exact hx.1, by rw [dom_set hi]; exact hx.2.1, hx.2.2⟩, fun ob ho => ?_⟩
  rw [c.other x (fun e => hx.2.1 (e ▸ hb))]; exact ho

theorem Holds.chg {X : Ctx} {h : AHeap} {i b : Nat} {o o' : OB} {w w' : World} (H : Holds X h w) (hi : h[i]? = some (b, o)) (c : Chg w w' b)
    (hn : ∃ ob, w'.heap[b]? = some ob ∧ RelO w'.heap (Imm X (h.set i (b, o')) w') o' ob) : Holds X (h.set i (b, o')) w' ∧ Ext h w (h.set i (b, o')) w' := by
  refine ⟨⟨by rw [dom_set hi]; exact H.nodup, by rw [dom_set hi]; exact H.nox, by rw [c.size]; exact H.xlt, X.mono' (imm_set hi c) H.gh, fun x p hp => ?_⟩,
    ⟨c.os, c.tape, c.output, by rw [c.size]; exact Nat.le_refl _, fun x hx hnd => c.other x fun e => hnd (e ▸ List.mem_map.2 ⟨_, List.mem_of_getElem? hi, rfl⟩), fun x hx hm => by rwa [dom_set hi] at hm, fun x off => ?_⟩⟩
  rotate_left
  · by_cases hxb : x = b
    · subst hxb
      obtain ⟨ob, h1, h2⟩ := hn
      obtain ⟨ob0, k1, k2⟩ := H.rel x o (List.mem_of_getElem? hi)
      rw [h1, k1, h2.thaw off, k2.thaw off]
    · rw [c.other x hxb]
  obtain ⟨j, hj, hjp⟩ := List.getElem_of_mem hp
  have hjl : j < h.length := by simpa using hj
  by_cases hij : i = j
  · subst hij
    simp only [List.getElem_set_self, Prod.mk.injEq] at hjp
    obtain ⟨rfl, rfl⟩ := hjp
    exact hn
  · rw [List.getElem_set_ne hij] at hjp
    have hxj : h[j]? = some (x, p) := by rw [List.getElem?_eq_getElem hjl, hjp]
    have hxb : x ≠ b := by
      intro e
      subst e
      have h1 : (dom h)[i]? = some x := by simp [dom, hi]
      have h2 : (dom h)[j]? = some x := by simp [dom, hxj]
      have hil : i < (dom h).length := (List.getElem?_eq_some_iff.1 h1).1
      exact hij ((List.getElem?_inj hil H.nodup).1 (h1.trans h2.symm))
    obtain ⟨ob, h1, h2⟩ := H.rel x p (List.mem_of_getElem? hxj)
    exact ⟨ob, (c.other x hxb).trans h1, h2.mono (imm_set hi c)⟩

/-- A world with one more block. -/
structure New (w w' : World) (o : Obj) : Prop where
  os : w'.os = w.os
  tape : w'.tape = w.tape
  output : w'.output = w.output
  size : w'.heap.size = w.heap.size + 1
  new : w'.heap[w.heap.size]? = some o
  old : ∀ c, c < w.heap.size → w'.heap[c]? = w.heap[c]?
theorem new_alloc (w : World) (o : Obj) : New w (w.alloc o) o := ⟨rfl, rfl, rfl, by simp, World.alloc_heap_new w o, fun c hc => Below.heap_alloc w o c hc⟩
theorem new_drew_alloc (w : World) (o : Obj) : New w (w.drew.alloc o) o := ⟨rfl, rfl, rfl, by simp, World.alloc_heap_new w.drew o, fun c hc => Below.heap_alloc w.drew o c hc⟩

theorem imm_new {X : Ctx} {h : AHeap} {w w' : World} {o : Obj} (n : New w w' o) (ob : OB) : ∀ x, Imm X h w x → Imm X ((w.heap.size, ob) :: h) w' x ∧ ∀ o', w.heap[x]? = some o' → w'.heap[x]? = some o' :=
  fun x hx => ⟨⟨by rw [n.size]; exact Nat.lt_succ_of_lt hx.1, by simp only [dom, List.map_cons, List.mem_cons, not_or]; exact ⟨Nat.ne_of_lt hx.1, hx.2.1⟩, hx.2.2⟩, fun o' ho => (n.old x hx.1).trans ho⟩

theorem Holds.new {X : Ctx} {h : AHeap} {w w' : World} {o : Obj} {ob : OB} (H : Holds X h w) (n : New w w' o) (hr : RelO w'.heap (Imm X ((w.heap.size, ob) :: h) w') ob o) : Holds X ((w.heap.size, ob) :: h) w' ∧ Ext h w ((w.heap.size, ob) :: h) w' := by
  refine ⟨⟨?_, fun b hb => ?_, fun b hb => by rw [n.size]; exact Nat.lt_succ_of_lt (H.xlt b hb), X.mono' (imm_new n ob) H.gh, fun b p hp => ?_⟩, ⟨n.os, n.tape, n.output, by rw [n.size]; omega, fun b hb _ => n.old b hb, fun b hb hm => ?_, fun x off => ?_⟩⟩
  · simp only [dom, List.map_cons, List.nodup_cons]
    exact ⟨fun hm => Nat.lt_irrefl _ (H.lt hm), H.nodup⟩
  · simp only [dom, List.map_cons, List.mem_cons] at hb
    rcases hb with rfl | hb
    · exact fun hx => Nat.lt_irrefl _ (H.xlt _ hx)
    · exact H.nox b hb
  · rcases List.mem_cons.1 hp with hp | hp
    · cases hp; exact ⟨o, n.new, hr⟩
    · obtain ⟨ob', h1, h2⟩ := H.rel b p hp
      exact ⟨ob', (n.old b (Array.getElem?_eq_some_iff.1 h1).1).trans h1, h2.mono (imm_new n ob)⟩
  · simp only [dom, List.map_cons, List.mem_cons] at hm
    rcases hm with rfl | hm
    · omega
    · exact hm
  · rcases Nat.lt_trichotomy x w.heap.size with hx | hx | hx
    · rw [n.old x hx]
    · subst hx; rw [n.new, hr.thaw off, Array.getElem?_eq_none (Nat.le_refl _)]; rfl
    · rw [Array.getElem?_eq_none (show w.heap.size ≤ x by omega), Array.getElem?_eq_none (show w'.heap.size ≤ x by rw [n.size]; omega)]

section
variable {P : Program} {X : Ctx} {N : Nat} {r : Option Nat} {Q : Post} {ds : List Deferred} {a : Tmps} {h : AHeap}
variable {ops : Array Oper} {rest : List Oper} {d : Tmp} {ty : TypeId} {pos : String} {aft : Array Edge}

def zeroK (P : Program) (t : TypeId) : Option (List PV) :=
  match P.info? t with
  | some i => match i.zero with
    | some z => some (z.cells.toList.map zav)
    | none => none
  | none => none
class ZeroC (P : Program) (t : TypeId) (zs : outParam (List PV)) : Prop where
  out : zeroK P t = some zs

/-- A block comes, and its address is the value. -/
theorem o_new {op : Op} {ob : OB} (hN : d < N) (hdef : ∀ c, op ≠ .defer c)
    (hrun : ∀ act w, St X N ds a h act w → ∃ w' o, (execOp act.eval ⟨some d, op, ty, pos, aft, none⟩).run P w = .ok (.value (.pointer (some ⟨w.heap.size, 0, none⟩))) w' ∧ New w w' o ∧ RelO w'.heap (Imm X ((w.heap.size, ob) :: h) w') ob o)
    (k : ∀ b, WPs P X N r ops rest Q ds ((d, .ptr b 0) :: a) ((b, ob) :: h)) : WPs P X N r ops (⟨some d, op, ty, pos, aft, none⟩ :: rest) Q ds a h :=
  o_run (fun v h' => ∃ b, v = .ptr b 0 ∧ h' = (b, ob) :: h) hN hdef (fun act w s => by
    obtain ⟨w', o, h1, h2, h3⟩ := hrun act w s
    obtain ⟨H, E⟩ := s.heap.new h2 h3
    exact ⟨_, w', .ptr w.heap.size 0, _, ⟨_, rfl, rfl⟩, h1, .ptr _ _, H, E⟩) fun v h' ⟨b, e1, e2⟩ => by subst e1; subst e2; exact k b

theorem run_newVar0 (t : TypeId) (v : Value) (w : World) : (newVar t v).run P w = .ok ⟨w.heap.size, 0, none⟩ (w.alloc (.cells v.cells t)) := by
  simp only [newVar, newRow, newObj]
  rfl

theorem o_alloc {t : TypeId} {zs : List PV} [hz : ZeroC P t zs] (hN : d < N) (k : ∀ b, WPs P X N r ops rest Q ds ((d, .ptr b 0) :: a) ((b, .box t (zs.map .p)) :: h)) :
    WPs P X N r ops (⟨some d, .alloc t, ty, pos, aft, none⟩ :: rest) Q ds a h :=
  o_new hN (by intro c e; cases e) (fun act w s => by
    have hz' := hz.out
    unfold zeroK at hz'
    split at hz'
    · rename_i i hi
      split at hz'
      · rename_i z hzz
        simp only [Option.some.injEq] at hz'
        subst hz'
        refine ⟨w.alloc (.cells z.cells t), .cells z.cells t, ?_, new_alloc w _, .box t _ z.cells (by simp) fun i c v hc hv => ?_⟩
        · refine exec_v (m := Instr.alloc t true (.tuple #[])) rfl ?_
          simp only [Instr.alloc]
          have h1 : (zeroValue t).run P w = .ok z w := by simp [zeroValue, typeInfo, program, Sem.run, bind, Sem.bind, pure, hi, hzz]
          rw [run_bind h1, run_bind (run_newVar0 t z w)]
          rfl
        · simp only [List.getElem?_map, Array.getElem?_toList, hv, Option.map_some, Option.some.injEq] at hc
          subst hc
          exact .p (zav_rel _ _ v)
      · cases hz'
    · cases hz') k

theorem o_box {t : TypeId} {x : Operand} {v : AV} {vs : List AV} (hx : ev a x = some v) (hc : cellsOf v = some vs) (hN : d < N) (k : ∀ b, WPs P X N r ops rest Q ds ((d, .ptr b 0) :: a) ((b, .box t vs) :: h)) :
    WPs P X N r ops (⟨some d, .box t x, ty, pos, aft, none⟩ :: rest) Q ds a h :=
  o_new hN (by intro c e; cases e) (fun act w s => by
    have hr := s.ev hx
    obtain ⟨h1, _⟩ := cellsOf_rel hr hc
    have n := new_alloc w (.cells (act.eval x).cells t)
    refine ⟨_, _, ?_, n, .box t vs _ (by simpa using h1.1) fun i c v hc hv => (h1.2 i c v hc (by simpa using hv)).mono (imm_new n _)⟩
    refine exec_v (m := Instr.box t (act.eval x)) rfl ?_
    simp only [Instr.box]
    rw [run_bind (run_newVar0 t _ w)]
    rfl) k

theorem exec_store {t : TypeId} {x y : Operand} {act : Act} {w : World} {b off : Nat} {g : Bool} {n : Nat} (ht : tyK P t = some (g, n)) (hx : act.eval x = .pointer (some ⟨b, off, none⟩)) {cells : Array Value} {bty : TypeId}
    (hb : w.heap[b]? = some (.cells cells bty (0, 0))) (hn : (act.eval y).cells.size = n) (ho : off + n ≤ cells.size) (h1 : ∀ u ∈ (act.eval y).cells.toList, u.oneCell' = true) :
    (execOp act.eval ⟨none, .store t x y, ty, pos, aft, none⟩).run P w = .ok .skip (w.setRow b (setR cells.toList off (act.eval y).cells.toList).toArray) := by
  have h2 : (sizeOf t).run P w = .ok n w := by
    cases g
    · exact (tyK_one ht w).2
    · exact (tyK_agg ht w).2
  have hst := run_storeCells_at P b off bty (act.eval y).cells.toList 0 cells w hb (by simp; omega) h1
  simp only [Nat.add_zero] at hst
  simp only [execOp, Instr.storeAt, hx, Instr.sureAddr]
  rw [run_bind (v := ()) (w' := w.setRow b (setR cells.toList off (act.eval y).cells.toList).toArray)]
  · rfl
  · rw [run_bind (run_pure _ w)]
    unfold storeVar
    rw [run_bind h2, if_neg (by simp [hn])]
    exact hst

theorem o_store {t : TypeId} {x y : Operand} {b off : Nat} {bty : TypeId} {cs vs : List AV} {v : AV} {g : Bool} {n : Nat} (i : Nat) (hx : ev a x = some (.ptr b off)) (hh : h[i]? = some (b, .box bty cs)) (hy : ev a y = some v) [ht : TyC P t g n] (hc : cellsOf v = some vs)
    (hn : vs.length = n) (ho : Nat.ble (off + n) cs.length = true) (k : WPs P X N r ops rest Q ds a (h.set i (b, .box bty (setR cs off vs)))) : WPs P X N r ops (⟨none, .store t x y, ty, pos, aft, none⟩ :: rest) Q ds a h :=
  o_run0 (by intro c e; cases e) (fun act w s => by
    obtain ⟨cells, hb, hs, hr⟩ := s.box hh
    have hr0 := s.ev hx
    generalize hxv : act.eval x = z at hr0
    cases hr0
    have hv := s.ev hy
    obtain ⟨h1, h2⟩ := cellsOf_rel hv hc
    have ho' := Nat.le_of_ble_eq_true ho
    have hsz : (act.eval y).cells.size = n := by have := h1.1; simp only [Array.length_toList] at this; omega
    refine ⟨_, exec_store ht.out hxv hb hsz (by omega) h2, ?_⟩
    have c := chg_setRow w b (setR cells.toList off (act.eval y).cells.toList).toArray
    refine s.heap.chg hh c ⟨_, setRow_heap w b cells _ bty (0, 0) hb, ?_⟩
    have hR : Rels w.heap (Imm X h w) cs cells.toList := ⟨by simpa using hs, fun i c v hc hv => hr i c v hc (by simpa using hv)⟩
    have hS := hR.setR h1 (off := off) (by omega)
    exact .box bty _ _ (by have := hS.1; simpa using this) fun i c' v hc hv => (hS.2 i c' v hc (by simpa using hv)).mono (imm_set hh c)) k

theorem o_storee {t : TypeId} {x y : Operand} {b kk ix j : Nat} {bty : TypeId} {es : List (List PV)} {cap : Nat} {e : List PV} {vs : List AV} {ps : List PV} {v : AV} {g : Bool} {n : Nat} (i : Nat) (hx : ev a x = some (.eptr b kk ix j)) (hh : h[i]? = some (b, .arr bty kk es cap)) (he : es[ix]? = some e)
    (hy : ev a y = some v) [ht : TyC P t g n] (hc : cellsOf v = some vs) (hp : pcells vs = some ps) (hn : ps.length = n) (ho : j + n ≤ e.length) (k : WPs P X N r ops rest Q ds a (h.set i (b, .arr bty kk (es.set ix (setR e j ps)) cap))) :
    WPs P X N r ops (⟨none, .store t x y, ty, pos, aft, none⟩ :: rest) Q ds a h :=
  o_run0 (by intro c e; cases e) (fun act w s => by
    obtain ⟨cells, hb, hs, hcap, hk, hr⟩ := s.arr hh
    have hr0 := s.ev hx
    generalize hxv : act.eval x = z at hr0
    cases hr0
    have hv := s.ev hy
    obtain ⟨h1, h2⟩ := cellsOf_rel hv hc
    have hvs := pcells_map hp
    subst hvs
    have hsz : (act.eval y).cells.size = n := by have := h1.1; simp only [Array.length_toList, List.length_map] at this; omega
    have hlt : ix < es.length := (List.getElem?_eq_some_iff.1 he).1
    have hek : e.length = kk := hk e (List.mem_of_getElem? he)
    have hse : ix * kk + kk ≤ cells.size := by rw [hs, ← Nat.succ_mul]; exact Nat.mul_le_mul_right kk (by omega)
    refine ⟨_, exec_store ht.out hxv hb hsz (by omega) h2, ?_⟩
    have c := chg_setRow w b (setR cells.toList (ix * kk + j) (act.eval y).cells.toList).toArray
    refine s.heap.chg hh c ⟨_, setRow_heap w b cells _ bty (0, 0) hb, ?_⟩
    have hlen : (act.eval y).cells.toList.length = n := by simpa using hsz
    have hfit : ix * kk + j + (act.eval y).cells.toList.length ≤ cells.toList.length := by rw [hlen]; simp; omega
    refine .arr bty kk _ cap _ (by have := setR_length hfit; simp only [List.size_toArray, this]; simpa using hs) (by simpa using hcap) (fun e' he' => ?_) (fun i' j' e' c' v' h3 h4 h5 => ?_)
    · rcases List.mem_or_eq_of_mem_set he' with hm | rfl
      · exact hk e' hm
      · rw [setR_length (by omega)]; exact hek
    · refine RelP.mono (imm_set hh c) ?_
      rw [List.getElem?_toArray, setR_get hfit, hlen] at h5
      rw [List.getElem?_set] at h3
      by_cases hii : ix = i'
      · subst hii
        rw [if_pos rfl, if_pos hlt, Option.some.injEq] at h3
        subst h3
        have hj' : j' < e.length := by
          have := (List.getElem?_eq_some_iff.1 h4).1
          rwa [setR_length (by omega)] at this
        rw [setR_get (by omega)] at h4
        by_cases hjr : j ≤ j' ∧ j' < j + ps.length
        · rw [if_pos hjr] at h4
          rw [if_pos (by omega)] at h5
          have h6 := h1.2 (j' - j) (.p c') v' (by simp [h4]) (by rw [← h5]; congr 1; omega)
          cases h6 with | p hq => exact hq
        · rw [if_neg hjr] at h4
          rw [if_neg (by omega)] at h5
          exact hr ix j' e c' v' he h4 (by simpa using h5)
      · rw [if_neg hii] at h3
        have hek' : e'.length = kk := hk e' (List.mem_of_getElem? h3)
        have hj' : j' < kk := by rw [← hek']; exact (List.getElem?_eq_some_iff.1 h4).1
        have hne : ¬ (ix * kk + j ≤ i' * kk + j' ∧ i' * kk + j' < ix * kk + j + n) := by
          rintro ⟨q1, q2⟩
          rcases Nat.lt_or_gt_of_ne hii with hl | hl
          · have : (ix + 1) * kk ≤ i' * kk := Nat.mul_le_mul_right kk hl
            rw [Nat.succ_mul] at this; omega
          · have : (i' + 1) * kk ≤ ix * kk := Nat.mul_le_mul_right kk hl
            rw [Nat.succ_mul] at this; omega
        rw [if_neg hne] at h5
        exact hr i' j' e' c' v' h3 h4 (by simpa using h5)) k
end
end Go.Proofs.YtnoicbajhlpndaaGreat.Hp
/- A function's contract from its body: the arguments come, the results go. -/
namespace Go.Proofs.YtnoicbajhlpndaaGreat.Hp
open Go Go.RowKit Go.Shelf
set_option linter.unusedVariables false
set_option linter.unusedSimpArgs false

def argT : Nat → List AV → Tmps
  | _, [] => []
  | i, v :: r => (i, v) :: argT (i + 1) r
theorem argT_get : ∀ {args : List AV} {i t : Nat} {v : AV}, lk (argT i args) t = some v → i ≤ t ∧ args[t - i]? = some v := by
  intro args
  induction args with
  | nil => intro i t v h; cases h
  | cons x r ih =>
    intro i t v h
    simp only [argT] at h
    by_cases ht : i = t
    · subst ht; rw [lk_same] at h; cases h; exact ⟨Nat.le_refl _, by simp⟩
    · rw [lk_other _ _ ht] at h
      obtain ⟨h1, h2⟩ := ih h
      refine ⟨by omega, ?_⟩
      rw [show t - i = (t - (i + 1)) + 1 from by omega]
      exact h2

/-- What a result variable holds. -/
inductive ResV (P : Program) (a : Tmps) (h : AHeap) : ResultVar → AV → Prop
  | tmp {t : Tmp} {v : AV} (ht : lk a t = some v) : ResV P a h (.tmp t) v
  | cell {t : Tmp} {ty bty : TypeId} {b : Nat} {cs : List AV} {v : AV} {g : Bool} {n : Nat} (i : Nat) (ht : lk a t = some (.ptr b 0)) (hh : h[i]? = some (b, .box bty cs)) (hk : tyK P ty = some (g, n)) (hv : ldA g n cs = some v) : ResV P a h (.cell t ty) v
inductive ResVs (P : Program) (a : Tmps) (h : AHeap) : List ResultVar → List AV → Prop
  | nil : ResVs P a h [] []
  | cons {x : ResultVar} {v : AV} {xs : List ResultVar} {vs : List AV} (hx : ResV P a h x v) (hr : ResVs P a h xs vs) : ResVs P a h (x :: xs) (v :: vs)

/-- One result is handed back as it is; none or several as a tuple. -/
def single : List AV → AV
  | [v] => v
  | vs => .tup vs

def marks (Ds : List Nat) : List Deferred := Ds.map fun D => { target := .collected D, args := #[] }

/-- What must hold where a function's body is left. -/
def RetP (P : Program) (rs : List ResultVar) (R : AEnd → AHeap → Prop) (ds : List Deferred) (a : Tmps) (h : AHeap) : Prop :=
  ∃ Ds vs v h', ds = marks Ds ∧ Ds.Nodup ∧ (∀ D ∈ Ds, (D, OB.obj (.deferred (some []))) ∈ h ∧ D ∉ dom h') ∧ ResVs P a h rs vs ∧ FrzA h h' (single vs) v ∧
    ((dom h).Nodup → (dom h').Nodup) ∧ (∀ b o', (b, o') ∈ h' → ∃ o, (b, o) ∈ h ∧ FrzO h h' o o') ∧ R (.ret v) h'
/-- How a function may end in a panic. -/
def PanP (R : AEnd → AHeap → Prop) (c : List PanicEntry) (ds : List Deferred) (h : AHeap) : Prop := ds = [] ∧ ∃ h', ((dom h).Nodup → (dom h').Nodup) ∧ (∀ b o', (b, o') ∈ h' → ∃ o, (b, o) ∈ h ∧ FrzO h h' o o') ∧ R (.pan c) h'
theorem panK {R : AEnd → AHeap → Prop} {c : List PanicEntry} {h : AHeap} (k : R (.pan c) []) : PanP R c [] h := ⟨rfl, [], (fun _ => List.nodup_nil), (by intro b o h; cases h), k⟩
def bodyQ (P : Program) (rs : List ResultVar) (R : AEnd → AHeap → Prop) : Post
  | .normal, ds, a, h => RetP P rs R ds a h
  | .ret, ds, a, h => RetP P rs R ds a h
  | .panic c, ds, a, h => PanP R c ds h
  | _, _, _, _ => False

section
variable {P : Program} {X : Ctx} {N : Nat} {a : Tmps} {h : AHeap}

def resM (tmps : Array Value) : ResultVar → Sem Value
  | .tmp t => pure (tmps.getD t undef)
  | .cell a t => do loadVar t (← asAddr (tmps.getD a undef))
theorem results_eq (fn : Func) (tmps : Array Value) : results fn tmps = (do let vs ← fn.results.mapM (resM tmps); pure (if h : vs.size = 1 then vs[0] else .tuple vs)) := by
  unfold results
  congr 1

theorem resV_run {rv : ResultVar} {v : AV} (hv : ResV P a h rv v) {ds : List Deferred} {act : Act} {w : World} (s : St X N ds a h act w) : ∃ x, (resM act.tmps rv).run P w = .ok x w ∧ RelA w.heap (Imm X h w) v x := by
  cases hv with
  | tmp ht =>
    obtain ⟨x, hx, hr⟩ := s.tm _ _ ht
    exact ⟨x, by simp [resM, Array.getD_eq_getD_getElem?, hx, run_pure], hr⟩
  | cell i ht hh hk hv =>
    obtain ⟨x, hx, hr⟩ := s.tm _ _ ht
    cases hr
    obtain ⟨cells, hb, hs, hrr⟩ := s.box hh
    obtain ⟨z, h1, h2⟩ := load_rel hk hb (off := 0) (by omega) (imm := Imm X h w) (fun i c v hc hv => hrr i c v hc (by simpa using hv)) hv
    refine ⟨z, ?_, h2⟩
    simp only [resM, Array.getD_eq_getD_getElem?, hx, Option.getD_some, asAddr]
    rw [run_bind (run_pure _ w)]
    exact h1

theorem mapM_results {ds : List Deferred} {act : Act} {w : World} (s : St X N ds a h act w) : ∀ {rs : List ResultVar} {vs : List AV}, ResVs P a h rs vs →
    ∃ xs : List Value, (rs.mapM (resM act.tmps)).run P w = .ok xs w ∧ xs.length = vs.length ∧ ∀ (i : Nat) (c : AV) (v : Value), vs[i]? = some c → xs[i]? = some v → RelA w.heap (Imm X h w) c v := by
  intro rs vs hv
  induction hv with
  | nil => exact ⟨[], rfl, rfl, by simp⟩
  | cons hx hr ih =>
    obtain ⟨x, h1, h2⟩ := resV_run hx s
    obtain ⟨xs, h3, h4, h5⟩ := ih
    refine ⟨x :: xs, ?_, by simp [h4], fun i c v hc hv => ?_⟩
    · rw [List.mapM_cons, run_bind h1, run_bind h3]; rfl
    · cases i with
      | zero => simp at hc hv; subst hc; subst hv; exact h2
      | succ i => exact h5 i c v (by simpa using hc) (by simpa using hv)

theorem results_run {fn : Func} {ds : List Deferred} {act : Act} {w : World} (s : St X N ds a h act w) {vs : List AV} (hv : ResVs P a h fn.results.toList vs) :
    ∃ x, (results fn act.tmps).run P w = .ok x w ∧ RelA w.heap (Imm X h w) (single vs) x := by
  obtain ⟨xs, h1, h2, h3⟩ := mapM_results s hv
  have hm : (fn.results.mapM (resM act.tmps)).run P w = .ok xs.toArray w := by
    rw [Array.mapM_eq_mapM_toList, map_eq_pure_bind, run_bind h1]; rfl
  refine ⟨if hh : xs.toArray.size = 1 then xs.toArray[0] else .tuple xs.toArray, ?_, ?_⟩
  · rw [results_eq, run_bind hm]
    rfl
  · match vs, xs, h2 with
    | [v], [x], _ => simpa [single] using h3 0 v x rfl rfl
    | [], [], _ => simp only [single]; exact .tup [] #[] rfl (by simp)
    | v1 :: v2 :: vs, x1 :: x2 :: xs, h2 => simp only [single]; rw [dif_neg (by simp)]; exact .tup _ _ (by simpa using h2) (fun i c v hc hv => h3 i c v hc (by simpa using hv))

/-- Marks of loops over functions are taken; results are handed back. -/
theorem leaves_marks {fn : Func} {tmps : Array Value} {R : Ending → World → Prop} {n : Nat} : ∀ (Ds : List Nat) (w : World), Ds.Nodup → (∀ D ∈ Ds, w.heap[D]? = some (.deferred (some []))) →
    (∀ w', (w'.os = w.os ∧ w'.tape = w.tape ∧ w'.output = w.output ∧ w'.heap.size = w.heap.size ∧ (∀ b, b ∉ Ds → w'.heap[b]? = w.heap[b]?) ∧ ∀ (b off : Nat), fzO w'.heap[b]? off = fzO w.heap[b]? off) → ∃ v, (results fn tmps).run P w' = .ok v w' ∧ R (.returned v) w') →
    LeavesInM Fence.wide n P fn tmps R (marks Ds) .returning w := by
  intro Ds
  induction Ds with
  | nil => exact fun w _ _ hk => hk w ⟨rfl, rfl, rfl, rfl, fun _ _ => rfl, fun _ _ => rfl⟩
  | cons D Ds ih =>
    intro w hn hD hk
    have h1 := run_takeDeferred (P := P) (hD D (by simp))
    refine ⟨by simp, .inl ⟨D, _, rfl, h1, ih _ (List.nodup_cons.1 hn).2 (fun E hE => ?_) fun w' hw' => ?_⟩⟩
    · have hne : E ≠ D := fun e => (List.nodup_cons.1 hn).1 (e ▸ hE)
      exact (World.putObj_heap_other hne).trans (hD E (by simp [hE]))
    · refine hk w' ⟨hw'.1, hw'.2.1, hw'.2.2.1, hw'.2.2.2.1.trans (by simp [World.putObj]), fun b hb => ?_, fun b off => (hw'.2.2.2.2.2 b off).trans ?_⟩
      · simp only [List.mem_cons, not_or] at hb
        exact (hw'.2.2.2.2.1 b hb.2).trans (World.putObj_heap_other hb.1)
      · by_cases hbD : b = D
        · subst hbD
          have h2 := hD b (by simp)
          rw [World.putObj_heap_same (Array.getElem?_eq_some_iff.1 h2).1, h2]; rfl
        · rw [World.putObj_heap_other hbD]

theorem RelO.cellsMono {hp hp' : Array Obj} {imm imm' : Nat → Prop} (hm : ∀ b, imm b → imm' b ∧ ∀ c t f, hp[b]? = some (.cells c t f) → hp'[b]? = some (.cells c t f)) {c : OB} {v : Obj} (h : RelO hp imm c v) : RelO hp' imm' c v := by
  cases h with
  | box ty cs cells hs hr => exact .box ty cs cells hs fun i c v h1 h2 => (hr i c v h1 h2).cellsMono hm
  | arr ty k es cap cells hs hc hk hr => exact .arr ty k es cap cells hs hc hk fun i j e c v h0 h1 h2 => (hr i j e c v h0 h1 h2).cellsMono hm
  | obj _ hz => exact .obj _ hz

/-- **A contract from the body.** -/
theorem fnX_intro {f : FuncId} {fn : Func} {c : Code} {args : List AV} {R : AEnd → AHeap → Prop} (hf : P.funcs[f]? = some fn) (hb : fn.body = some c) (hN : fn.ntmps = N) (hl : Nat.ble args.length N = true)
    (k : WP P X N none c (bodyQ P fn.results.toList R) [] (argT 0 args) h) : FnX P X f args h R := by
  intro w vals H hv
  refine callsIn_wide (n := 0) |>.1 ?_
  refine callsIn_of_wp_marks hf hb trivial ?_
  have hl' := Nat.le_of_ble_eq_true hl
  have s0 : St X N [] (argT 0 args) h { tmps := vals ++ Array.replicate (fn.ntmps - vals.size) undef, defers := [] } w := by
    refine ⟨by simp [hN, hv.1]; omega, rfl, fun t v ht => ?_, H⟩
    obtain ⟨_, h2⟩ := argT_get ht
    simp only [Nat.sub_zero] at h2
    have hlt : t < vals.size := by rw [hv.1]; exact (List.getElem?_eq_some_iff.1 h2).1
    refine ⟨vals[t], by rw [Array.getElem?_append_left hlt]; simp [hlt], hv.2 t v _ h2 (by simp [hlt])⟩
  refine wpIn_mono (k _ w s0 0) ?_
  have main : ∀ ds a' h' act' w', RetP P fn.results.toList R ds a' h' → St X N ds a' h' act' w' → Ext h w h' w' →
      LeavesInM Fence.wide 0 P fn act'.tmps (fun e w' => ∃ E h', R E h' ∧ RelE w'.heap (Imm X h' w') E e ∧ Holds X h' w' ∧ Ext h w h' w') act'.defers .returning w' := by
    rintro ds a' h' act' w' ⟨Ds, vs, v, h2, rfl, hnd, hD, hres, hfz, hn2, hm2, hR⟩ s e
    rw [s.defers]
    have hDw : ∀ D ∈ Ds, w'.heap[D]? = some (.deferred (some [])) := by
      intro D hm
      obtain ⟨ob, g1, g2⟩ := s.heap.rel D _ (hD D hm).1
      cases g2; exact g1
    refine leaves_marks Ds w' hnd hDw fun w2 ⟨e1, e2, e3, e4, e5, e6⟩ => ?_
    have hdD : ∀ D ∈ Ds, D ∈ dom h' := fun D hm => List.mem_map.2 ⟨_, (hD D hm).1, rfl⟩
    -- the world behind the marks
    have hcm : ∀ (g : AHeap), ∀ b, Imm X g w' b → Imm X g w2 b ∧ ∀ c t f, w'.heap[b]? = some (.cells c t f) → w2.heap[b]? = some (.cells c t f) := by
      intro g b hb
      refine ⟨⟨by rw [e4]; exact hb.1, hb.2.1, hb.2.2⟩, fun c t f hc => ?_⟩
      rw [e5 b (fun hm => by rw [hDw b hm] at hc; cases hc)]; exact hc
    -- what is owned, but for the marks
    let h0 : AHeap := h'.filter fun p => !decide (p.1 ∈ Ds)
    have hm0 : ∀ b o, (b, o) ∈ h0 ↔ (b, o) ∈ h' ∧ b ∉ Ds := by intro b o; simp [h0]
    have hd0 : ∀ b, b ∈ dom h0 → b ∈ dom h' := fun b hb => by
      obtain ⟨⟨b', o⟩, h1, rfl⟩ := List.mem_map.1 hb
      exact List.mem_map.2 ⟨_, ((hm0 _ _).1 h1).1, rfl⟩
    have hn0 : (dom h0).Nodup := (List.filter_sublist.map Prod.fst).nodup s.heap.nodup
    have H2 : Holds X h2 w2 := by
      have H1 := s.heap.frz (hn2 s.heap.nodup) hm2
      refine ⟨H1.nodup, H1.nox, fun b hb => by rw [e4]; exact H1.xlt b hb, X.mono _ _ _ _ (hcm h2) H1.gh, fun b o ho => ?_⟩
      obtain ⟨ob, g1, g2⟩ := H1.rel b o ho
      have hbD : b ∉ Ds := fun hm => (hD b hm).2 (List.mem_map.2 ⟨_, ho, rfl⟩)
      exact ⟨ob, (e5 b hbD).trans g1, g2.cellsMono (hcm h2)⟩
    have E2 : Ext h w h2 w2 := by
      refine ⟨e1.trans e.os, e2.trans e.tape, e3.trans e.output, by rw [e4]; exact e.size, fun b hb hn => ?_, fun b hb hm => ?_, fun b off => (e6 b off).trans (e.fz b off)⟩
      · rw [e5 b (fun hm => hn (e.own b hb (hdD b hm)))]; exact e.keep b hb hn
      · exact e.own b hb (dom_of_frz hm2 b hm)
    -- the results, read behind the marks
    have s1 : St X N (marks Ds) a' h0 act' w2 := by
      refine ⟨s.size, s.defers, fun t u hu => ?_, ?_⟩
      · obtain ⟨x, hx, hr⟩ := s.tm t u hu
        exact ⟨x, hx, (hr.mono (Imm.less hd0)).cellsMono (hcm h0)⟩
      · refine ⟨hn0, fun b hb => s.heap.nox b (hd0 b hb), fun b hb => by rw [e4]; exact s.heap.xlt b hb, X.mono _ _ _ _ (hcm h0) (X.mono' (Imm.less hd0) s.heap.gh), fun b o ho => ?_⟩
        obtain ⟨ho1, ho2⟩ := (hm0 b o).1 ho
        obtain ⟨ob, g1, g2⟩ := s.heap.rel b o ho1
        exact ⟨ob, (e5 b ho2).trans g1, (g2.mono (Imm.less hd0)).cellsMono (hcm h0)⟩
    have hres0 : ResVs P a' h0 fn.results.toList vs := by
      clear hfz hR
      revert hres
      generalize fn.results.toList = rs
      intro hres
      induction hres with
      | nil => exact .nil
      | cons hx hr ih =>
        refine .cons ?_ ih
        cases hx with
        | tmp ht => exact .tmp ht
        | @cell t tty bty b cs v g n i ht hh hk hv =>
          have hmem : (b, OB.box bty cs) ∈ h0 := by
            refine (hm0 _ _).2 ⟨List.mem_of_getElem? hh, fun hm => ?_⟩
            obtain ⟨cells, hb, _⟩ := s.box hh
            rw [hDw b hm] at hb; cases hb
          obtain ⟨j, hj, hjp⟩ := List.getElem_of_mem hmem
          exact .cell j ht (by rw [List.getElem?_eq_getElem hj, hjp]) hk hv
    obtain ⟨x, g1, g2⟩ := results_run s1 hres0
    -- the same value, of which less is owned
    have hd2 : ∀ b, b ∈ dom h2 → b ∈ dom h0 := fun b hb => by
      obtain ⟨⟨b', o⟩, q1, rfl⟩ := List.mem_map.1 (dom_of_frz hm2 b hb)
      exact List.mem_map.2 ⟨(b', o), (hm0 _ _).2 ⟨q1, fun hm => (hD _ hm).2 hb⟩, rfl⟩
    have hfz0 : FrzA h0 h2 (single vs) v := by
      clear g2 g1 hres0 hres hR
      revert hfz
      generalize single vs = u
      intro hfz
      induction hfz with
      | refl v => exact .refl v
      | os b k off len cap ty es c' f hm hd hl hc hf =>
        refine .os b k off len cap ty es c' f ((hm0 _ _).2 ⟨hm, fun hmD => ?_⟩) hd hl hc hf
        obtain ⟨ob, q1, q2⟩ := s.heap.rel b _ hm
        rw [hDw b hmD] at q1; cases q1; cases q2
      | agg cs ds hs hr ih => exact .agg cs ds hs ih
      | tup cs ds hs hr ih => exact .tup cs ds hs ih
      | fn f cs ds hs hr ih => exact .fn f cs ds hs ih
      | junk v => exact .junk v
    have hxx : RelA w2.heap (Imm X h2 w2) v x := hfz0.sound s1.heap hd2 x g2
    exact ⟨x, g1, .ret v, h2, hR, .ret hxx, H2, E2⟩
  rintro e act' w' ⟨ds', a', h', q, s', x'⟩
  cases e with
  | normal => exact main ds' a' h' act' w' q s' x'
  | ret => exact main ds' a' h' act' w' q s' x'
  | panic ch =>
    obtain ⟨rfl, h2, hn2, hm2, hR⟩ := q
    have hd := s'.defers
    simp only [bodyPostM, hd, LeavesInM, LeavesIn]
    exact ⟨.pan ch, h2, hR, .pan ch, s'.heap.frz (hn2 s'.heap.nodup) hm2, x'.trans (Ext.frz w' (dom_of_frz hm2))⟩
  | exit id => exact q.elim
  | goto l => exact q.elim
  | outgrown => exact q.elim
theorem fnE_intro {f : FuncId} {fn : Func} {c : Code} {args : List AV} {R : AEnd → AHeap → Prop} (hf : P.funcs[f]? = some fn) (hb : fn.body = some c) (hN : fn.ntmps = N) (hl : Nat.ble args.length N = true)
    (k : ∀ X, WP P X N none c (bodyQ P fn.results.toList R) [] (argT 0 args) h) : FnE P f args h R := fun X => fnX_intro hf hb hN hl (k X)
end
end Go.Proofs.YtnoicbajhlpndaaGreat.Hp
