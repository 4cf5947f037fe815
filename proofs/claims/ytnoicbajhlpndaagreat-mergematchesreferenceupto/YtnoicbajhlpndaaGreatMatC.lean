/- The walk of the law MergeLevels. -/
import Derived.Test.YtnoicbajhlpndaaGreatTimeA
import Derived.Test.YtnoicbajhlpndaaGreatMatB
namespace Go.Proofs.YtnoicbajhlpndaaGreat
open Go Go.RowKit Go.Shelf Hp
set_option maxRecDepth 10000
set_option maxHeartbeats 1000000
set_option linter.unusedVariables false
set_option linter.unusedSimpArgs false
set_option linter.unnecessarySimpa false
attribute [local irreducible] WP WPs FnX IterX YdX RetP PanP Ch Back Join
end Go.Proofs.YtnoicbajhlpndaaGreat
/- The references' and the program's calls as computations, with nothing said of capacities; lists of worlds, of lists of events and of debts as plain data. -/
namespace Go.Proofs.YtnoicbajhlpndaaGreat
open Go Go.RowKit Go.Shelf Hp
set_option maxRecDepth 10000
set_option maxHeartbeats 1000000
set_option linter.unusedVariables false
set_option linter.unusedSimpArgs false
set_option linter.unnecessarySimpa false
attribute [local irreducible] WP WPs FnX IterX YdX RetP PanP Ch Back Join
theorem weakT3 {hp : Array Obj} {imm : Nat → Prop} {w : Wd} {f1 f2 f3 : Bool} {m n : Int} {v : Value} (h : RelA hp imm (.tup [encW w f1 f2 f3, I m, I n]) v) : RelA hp imm (.tup [encW w false false false, I m, I n]) v := by
  cases h with
  | tup cs vals hs hr =>
    refine .tup _ _ (by simpa using hs) fun i c v hc hv => ?_
    match i with
    | 0 => cases hc; exact weakW (hr 0 _ v rfl hv)
    | 1 => exact hr 1 c v hc hv
    | 2 => exact hr 2 c v hc hv
    | i + 3 => cases hc
theorem weakT2 {hp : Array Obj} {imm : Nat → Prop} {es : List (List PV)} {f : Bool} {n : Int} {v : Value} (h : RelA hp imm (.tup [V es f, I n]) v) : RelA hp imm (.tup [V es false, I n]) v := by
  cases h with
  | tup cs vals hs hr =>
    refine .tup _ _ (by simpa using hs) fun i c v hc hv => ?_
    match i with
    | 0 => cases hc; exact weakA (hr 0 _ v rfl hv)
    | 1 => exact hr 1 c v hc hv
    | i + 2 => cases hc
theorem step42F_spec (w : Wd) (e : Ev) (hbs : w.blocks.length ≤ 1000000000) (f1 f2 f3 : Bool) : Fn1 Tryz.prog 17 [encW w f1 f2 f3, encE e] (.tup [encW (stepM w e).1 false false false, I (stepM w e).2]) := by
  intro X
  have hs := step42_spec w e hbs f1 f2 f3 X
  rw [stepRM_eq] at hs
  unfold FnX at hs ⊢
  intro w0 vals hh ha
  refine (hs w0 vals hh ha).mono fun e' w' ⟨E, h', ⟨r, hE, hr0, u1, u2, u3, hr1⟩, hr, hh', hx⟩ => ?_
  subst hE; subst hr0; subst hr1
  cases hr with
  | ret hr => exact ⟨_, [], ⟨_, rfl, rfl, rfl⟩, .ret (weakT hr), hh', hx⟩
theorem runF_spec (w : Wd) (l : List Ev) (hlen : l.length ≤ 1000000000) (f1 f2 f3 f : Bool) : Fn1 Tryz.prog 21 [encW w f1 f2 f3, V (l.map encV) f] (.tup [encW (runM w l).1 false false false, I (runM w l).2.1, I (runM w l).2.2]) := by
  intro X
  have hs := run_spec w l hlen f1 f2 f3 f X
  unfold FnX at hs ⊢
  intro w0 vals hh ha
  refine (hs w0 vals hh ha).mono fun e' w' ⟨E, h', ⟨r, hE, hr0, u1, u2, u3, hr1⟩, hr, hh', hx⟩ => ?_
  subst hE; subst hr0; subst hr1
  cases hr with
  | ret hr => exact ⟨_, [], ⟨_, rfl, rfl, rfl⟩, .ret (weakT3 hr), hh', hx⟩
theorem run42F_spec (w : Wd) (l : List Ev) (hbs : w.blocks.length ≤ 1000000000) (hlen : l.length ≤ 1000000000) (f1 f2 f3 f : Bool) : Fn1 Tryz.prog 22 [encW w f1 f2 f3, V (l.map encV) f] (.tup [encW (runM w l).1 false false false, I (runM w l).2.1, I (runM w l).2.2]) := by
  intro X
  have hs := run42_spec w l hbs hlen f1 f2 f3 f X
  unfold FnX at hs ⊢
  intro w0 vals hh ha
  refine (hs w0 vals hh ha).mono fun e' w' ⟨E, h', ⟨r, hE, hr0, u1, u2, u3, hr1⟩, hr, hh', hx⟩ => ?_
  subst hE; subst hr0; subst hr1
  cases hr with
  | ret hr => exact ⟨_, [], ⟨_, rfl, rfl, rfl⟩, .ret (weakT3 hr), hh', hx⟩
theorem at42F_spec (w : Wd) (l : List Ev) (t : Int) (hbs : w.blocks.length ≤ 1000000000) (hlen : l.length ≤ 1000000000) (f1 f2 f3 f : Bool) : Fn1 Tryz.prog 25 [encW w f1 f2 f3, V (l.map encV) f, I t] (.tup [encW (atMW w l t).1 false false false, I (atMW w l t).2]) := by
  intro X
  have hs := at42_spec w l t hbs hlen f1 f2 f3 f X
  unfold FnX at hs ⊢
  intro w0 vals hh ha
  refine (hs w0 vals hh ha).mono fun e' w' ⟨E, h', ⟨r, hE, hr0, u1, u2, u3, hr1⟩, hr, hh', hx⟩ => ?_
  subst hE; subst hr0; subst hr1
  cases hr with
  | ret hr => exact ⟨_, [], ⟨_, rfl, rfl, rfl⟩, .ret (weakT hr), hh', hx⟩
theorem debtsF_spec (w : Wd) (l : List Ev) (hlen : l.length ≤ 1000000000) (f1 f2 f3 f : Bool) (ds : List Dbt) (hds : ds.length ≤ 900000000) (fd : Bool) : Fn1 Tryz.prog 26 [encW w f1 f2 f3, V (l.map encV) f, V (ds.map encD) fd] (.tup [V ((debtsM w l ds).1.map encD) false, I (debtsM w l ds).2]) := by
  intro X
  have hs := debts_spec w l hlen f1 f2 f3 f ds hds fd X
  unfold FnX at hs ⊢
  intro w0 vals hh ha
  refine (hs w0 vals hh ha).mono fun e' w' ⟨E, h', ⟨r, hE, ⟨u1, hr1⟩, hr0⟩, hr, hh', hx⟩ => ?_
  subst hE; subst hr0; subst hr1
  cases hr with
  | ret hr => exact ⟨_, [], ⟨_, rfl, rfl, rfl⟩, .ret (weakT2 hr), hh', hx⟩
theorem debts42F_spec (w : Wd) (l : List Ev) (hbs : w.blocks.length ≤ 1000000000) (hlen : l.length ≤ 1000000000) (f1 f2 f3 f : Bool) (ds : List Dbt) (hds : ds.length ≤ 900000000 - 1000) (fd : Bool) : Fn1 Tryz.prog 27 [encW w f1 f2 f3, V (l.map encV) f, V (ds.map encD) fd] (.tup [V ((debtsM w l ds).1.map encD) false, I (debtsM w l ds).2]) := by
  intro X
  have hs := debts42_spec w l hbs hlen f1 f2 f3 f ds hds fd X
  unfold FnX at hs ⊢
  intro w0 vals hh ha
  refine (hs w0 vals hh ha).mono fun e' w' ⟨E, h', ⟨r, hE, ⟨u1, hr1⟩, hr0⟩, hr, hh', hx⟩ => ?_
  subst hE; subst hr0; subst hr1
  cases hr with
  | ret hr => exact ⟨_, [], ⟨_, rfl, rfl, rfl⟩, .ret (weakT2 hr), hh', hx⟩
/-! ### sizes -/
theorem small_0 : smallW wd0 := by simp [smallW, wd0]
theorem runL_small : ∀ (l : List Ev) (w : Wd) (i : Int), smallW w → smallW (runL w l i).1
  | [], _, _, h => h
  | e :: l, w, i, _ => by
    simp only [runL]
    split
    · rename_i w' hs
      exact runL_small l w' (i + 1) (small_v ((valid_iff w').1 (stepW_valid hs)))
    · exact small_0
theorem runM_small (w : Wd) (l : List Ev) : smallW (runM w l).1 := by
  unfold runM
  split
  · exact small_0
  · rename_i h
    have hv : validW w = true := by cases hq : validW w with | true => rfl | false => rw [hq] at h; simp at h
    exact runL_small l w 0 (small_v ((valid_iff w).1 hv))
theorem atM_small (w : Wd) (l : List Ev) (t : Int) : smallW (atMW w l t).1 := by
  unfold atMW
  split
  · exact runM_small _ _
  · exact small_0
theorem foldD_len : ∀ (l : List Ev) (ds : List Dbt), (l.foldl debtE ds).length ≤ ds.length + l.length
  | [], _ => Nat.le_refl _
  | e :: l, ds => by
    have h1 := foldD_len l (debtE ds e)
    have h2 := debtE_len ds e
    simp only [List.foldl_cons, List.length_cons]; omega
theorem debtsM_len (w : Wd) (l : List Ev) (ds : List Dbt) : (debtsM w l ds).1.length ≤ ds.length + l.length := by
  unfold debtsM
  split
  · simp
  · exact foldD_len l ds
theorem eqW_self (w : Wd) : eqW w w = true := by simp [eqW]
/-! ### lists of them -/
abbrev WP4 := Wd × Bool × Bool × Bool
def encWP (p : WP4) : List PV := [pI p.1.alive, pI p.1.ever, .vs (p.1.blocks.map encB) p.2.1, .vs (p.1.bal.map encI) p.2.2.1, .vs (p.1.lev.map encI) p.2.2.2]
def dWP : WP4 := (wd0, true, true, true)
def encLP (p : List Ev × Bool) : List PV := [.vs (p.1.map encV) p.2]
def encDP (p : List Dbt × Bool) : List PV := [.vs (p.1.map encD) p.2]
theorem eltP {α : Type} {enc : α → List PV} {l : List α} {d : α} {n : Int} (h : n.toNat < l.length) : (l.map enc)[n.toNat]? = some (enc (l.getD n.toNat d)) := by simp [h]
theorem getD_mem {α : Type} {l : List α} {k : Nat} {d : α} (h : k < l.length) : l.getD k d ∈ l := by
  rw [List.getD_eq_getElem?_getD, List.getElem?_eq_getElem h]; exact List.getElem_mem h
structure MmI (n : Nat) where
  k : Nat
  p : Wd
  q : Wd
  hk : k ≤ n
/-! ### two appends, the first of something that may be empty -/
def AtL (T : TypeId) (k : Nat) (es : List (List PV)) (v : AV) (hh : AHeap) : Prop := (es = [] ∧ v = V [] true ∧ hh = []) ∨ ∃ b c', es.length ≤ c' ∧ v = .os b k 0 es.length c' ∧ hh = [(b, .arr T k es c')]
section
variable {P : Program} {X : Ctx} {N : Nat} {r : Option Nat} {Q : Post} {ds : List Deferred} {a : Tmps} {h : AHeap} {ops : Array Oper} {rest : List Oper} {d : Tmp} {ty : TypeId} {pos : String} {aft : Array Edge}
theorem o_weaken {l : List Oper} {a' : Tmps} (hw : ∀ t v, lk a' t = some v → lk a t = some v) (k : WPs P X N r ops l Q ds a' h) : WPs P X N r ops l Q ds a h := by
  unfold WPs at k ⊢
  exact fun act w s n => k act w (s.weaken hw) n
theorem o_appendr {t : TypeId} {x y : Operand} {te k by_ : Nat} {ys : List (List PV)} {g : Bool} (hx : ev a x = some (V [] true)) (hy : ev a y = some (V ys g)) [hs : SliceC P t te k by_]
    (hok : ∀ z ∈ ys, okB k z = true) (hroom : ys.length ≤ 140737488355) (hN : d < N) (kk : ∀ v hh, AtL te k ys v hh → WPs P X N r ops rest Q ds ((d, v) :: a) (hh ++ h)) :
    WPs P X N r ops (⟨some d, .call { callee := .builtin .append, args := #[x, y], argTypes := #[t, t] }, ty, pos, aft, none⟩ :: rest) Q ds a h := by
  rcases ys with _ | ⟨z, s⟩
  · exact o_append00 hx hy rfl hN (kk _ [] (.inl ⟨rfl, rfl, rfl⟩))
  · exact o_appendo hx hy hok (by simp) hroom hN fun b c' hc => kk _ [_] (.inr ⟨b, c', hc, rfl, rfl⟩)
theorem o_appends {t : TypeId} {x y : Operand} {te k by_ : Nat} {es ys : List (List PV)} {v : AV} {hh : AHeap} {g : Bool} (hA : AtL te k es v hh) (hx : ev a x = some v) (hy : ev a y = some (V ys g)) [hs : SliceC P t te k by_]
    (hok : ∀ z ∈ ys, okB k z = true) (hroom : es.length + ys.length ≤ 140737488355) (hN : d < N) (kk : ∀ f, WPs P X N r ops rest Q ds ((d, V (es ++ ys) f) :: a) h) :
    WPs P X N r ops (⟨some d, .call { callee := .builtin .append, args := #[x, y], argTypes := #[t, t] }, ty, pos, aft, none⟩ :: rest) Q ds a (hh ++ h) := by
  rcases hA with ⟨rfl, rfl, rfl⟩ | ⟨b, c', hc, rfl, rfl⟩
  · exact o_appendq hx hy hok (by omega) hN (kk _)
  · refine o_append (h := (b, .arr te k es c') :: h) 0 hx rfl hy (.v _ _) hok rfl hroom hN fun b' c2 hc2 => ?_
    refine o_freeze 0 d (lk_same _ _ _) rfl (by simp) hc2 ?_
    refine o_weaken (fun t v hv => ?_) (kk false)
    simp only [lk] at hv ⊢
    cases hb : Nat.beq d t with
    | true => rw [hb] at hv; simpa [hb] using hv
    | false => rw [hb] at hv; simpa [hb] using hv
end
end Go.Proofs.YtnoicbajhlpndaaGreat
/- The walk of the law MergeMatchesReference. -/
namespace Go.Proofs.YtnoicbajhlpndaaGreat
open Go Go.RowKit Go.Shelf Hp
set_option maxRecDepth 10000
set_option maxHeartbeats 1000000
set_option linter.unusedVariables false
set_option linter.unusedSimpArgs false
set_option linter.unnecessarySimpa false
attribute [local irreducible] WP WPs FnX IterX YdX RetP PanP Ch Back Join

theorem mergeMatchesReference_spec (a0 a1 a2 : Int) (ha0 : in64 a0) (ha1 : in64 a1) (ha2 : in64 a2) (x : List T3) (hxl : x.length ≤ 1000000000) (hx : ok3 x) (fx : Bool) (y : List T3) (hyl : y.length ≤ 1000000000) (hy : ok3 y) (fy : Bool) (z : List T7) (hzl : z.length ≤ 1000000000) (hz : ok7 z) (fz : Bool) (b0 b1 b2 : Int) (hb0 : in64 b0) (hb1 : in64 b1) (hb2 : in64 b2) (u : List Ev) (hul : u.length ≤ 1000000000) (fu : Bool) (o0 o1 o2 o3 o4 o5 o6 : Int) (ho0 : in64 o0) (ho1 : in64 o1) (ho2 : in64 o2) (ho3 : in64 o3) (ho4 : in64 o4) (ho5 : in64 o5) (ho6 : in64 o6) (dd : List Dbt) (hddl : dd.length ≤ 1000000000) (fdd : Bool) (a3 : Int) (ha3 : in64 a3) : Fn1 Tryz.prog 3 [.agg [I a0, I a1, I a2], V (x.map enc3) fx, V (y.map enc3) fy, V (z.map enc7) fz, .agg [I b0, I b1, I b2], V (u.map encV) fu, .agg [I o0, I o1, I o2, I o3, I o4, I o5, I o6], I a3, V (dd.map encD) fdd] (B true) := by
 refine fnE_intro (N := 271) Tryz.func3 rfl rfl rfl ?_
 intro X
 refine h_seq<|H<|o_box Z Z K fun x1 => o_box Z Z K fun x2 => o_box Z Z K fun x3 => S Z K<|o_nil<|h_seq<|H<|o_call1 Z Z EntC.out K sane_spec<|S Z K<|o_nil ?_
 refine h_seq<|h_seq<|H<|G Z K<|o_not Z K<|o_nil<|h_condf Z Z<|h_skip<|h_seq<|H<|O 2 Z Z Z Z K<|G Z K ?_
 refine G Z K<|o_callN Z Z EntC.out K (made_spec a0 a1 a2 ha0 ha1 ha2 x y hxl hyl hx hy fx fy) fun v h' hr => ?_
 obtain ⟨⟨ds, w1, w2, w3, w4, rfl, hdl, hgd, hlk⟩, rfl⟩ := hr
 obtain ⟨hmv, hmb, hmm, hma⟩ := made_valid a0 a1 x a2 ds hdl hgd
 obtain ⟨w, hw⟩ : ∃ w, w = madeW a0 a1 x a2 ds := ⟨_, rfl⟩
 rw [← hw] at hmv hmb hmm ⊢
 refine G Z K<|o_extract Z Z K<|o_extract Z Z K<|o_alloc K fun x5 => ?_
 refine o_store 0 Z Z Z Z Z Z<|S Z K<|o_nil<|h_seq<|H<|O 0 Z Z Z Z K<|G Z K<|o_callN Z Z EntC.out K (events42_spec w hmv w1 w2 w3 z hzl hz fz) fun v h' hr => ?_
 obtain ⟨⟨l, fl, rfl, hl8, hps⟩, rfl⟩ := hr
 refine S Z K<|o_nil<|h_seq<|H<|O 0 Z Z Z Z K<|G Z K<|o_idxa Z Z K K K<|O 2 Z Z Z Z K<|o_idxa Z Z K K K<|O 2 Z Z Z Z K<|o_idxa Z Z K K K<|O 2 Z Z Z Z K ?_
 refine o_callN Z Z EntC.out K (bent42_spec w hmv w1 w2 w3 l (by omega) fl b0 b1 b2 hb0 hb1 hb2) fun v h' hr => ?_
 obtain ⟨⟨wB, lB, g1, g2, g3, g4, rfl, hwB, hlB⟩, rfl⟩ := hr
 refine G Z K<|o_extract Z Z K<|o_extract Z Z K<|o_alloc K fun x6 => ?_
 refine o_store 0 Z Z Z Z Z Z<|S Z K<|o_nil<|h_seq<|H<|G Z K<|G Z K<|o_len Z K<|o_min Z Z K<|o_front Z Z (by omega) (by omega) (by simp [encV]) K ?_
 refine S Z K<|o_nil ?_
 rw [← List.map_take]
 obtain ⟨u2, hu2⟩ : ∃ q, q = u.take (min ((((u.map encV)).length : Nat) : Int) 22).toNat := ⟨_, rfl⟩
 rw [← hu2]
 have hu2l : u2.length ≤ 22 := by rw [hu2, List.length_take]; omega
 obtain ⟨fu2, hfu2⟩ : ∃ q, q = (fu && Nat.beq (min ((((u.map encV)).length : Nat) : Int) 22).toNat ((u.map encV)).length) := ⟨_, rfl⟩
 rw [← hfu2]
 refine h_seq<|H<|G Z K<|G Z K<|o_len Z K<|o_min Z Z K<|o_front Z Z (by omega) (by omega) (by simp [encD]) K ?_
 refine S Z K<|o_nil ?_
 rw [← List.map_take]
 obtain ⟨d2, hd2⟩ : ∃ q, q = dd.take (min ((((dd.map encD)).length : Nat) : Int) 20).toNat := ⟨_, rfl⟩
 rw [← hd2]
 have hd2l : d2.length ≤ 20 := by rw [hd2, List.length_take]; omega
 obtain ⟨fd2, hfd2⟩ : ∃ q, q = (fdd && Nat.beq (min ((((dd.map encD)).length : Nat) : Int) 20).toNat ((dd.map encD)).length) := ⟨_, rfl⟩
 rw [← hfd2]
 refine h_seq<|H<|O 1 Z Z Z Z K<|O 2 Z Z Z Z K<|o_callN Z Z EntC.out K (one42_spec w w1 w2 w3 0 (by omega) (by omega) o0 o1 o2 o3 o4 o5 o6 ho0 ho1 ho2 ho3 ho4 ho5 ho6) fun v h' hr => ?_
 obtain ⟨⟨e, rfl, hge⟩, rfl⟩ := hr
 refine o_alloc K fun x7 => ?_
 refine o_store 0 Z Z Z Z Z Z<|o_nil<|h_seq<|h_seq<|H<|O 2 Z Z Z Z K<|O 1 Z Z Z Z K<|o_build Z Z K<|o_buildSlicep Z (by rfl) (by rfl) (by rfl) (by rfl) K ?_
 refine o_len Z K<|G Z K<|o_nil<|h_block ?_
 have hbw := valid_len hmv.blk
 have hWs : ∀ p ∈ ([(w, w1, w2, w3), (wB, g1, g2, g3), (wd0, true, true, true)] : List WP4), p.1.blocks.length ≤ 1000 := by intro p hp; simp only [List.mem_cons, List.not_mem_nil, or_false] at hp; rcases hp with rfl | rfl | rfl; (dsimp only; omega); (dsimp only; omega); exact Nat.zero_le _
 refine h_famS (ι := {k : Nat // k ≤ 3}) (fun i => [(5, V (u2.map encV) fu2), (7, I a3), (8, V (d2.map encD) fd2), (19, B true), (21, V (ds.map encD) w4), (22, V (l.map encV) fl), (24, V (lB.map encV) g4), (25, .ptr x7 0), (90, V (([(w, w1, w2, w3), (wB, g1, g2, g3), (wd0, true, true, true)] : List WP4).map encWP) true), (91, I ((3 : Nat) : Int)), (92, I (i.1 : Nat))]) (fun i => (x7, .box 41 [I e.kind, I e.t, I e.a, I e.b, I e.c, I e.f, I e.to, I e.m]) :: []) (fun i => 3 - i.1) ⟨0, Nat.zero_le _⟩ (.cons_cons _ (.cons _ (.cons _ (.cons _ (.cons _ (.cons _ (.refl _))))))) (subT.cons Z (subT.cons Z (subT.cons Z (subT.cons Z (subT.cons Z (subT.cons Z (subT.cons Z (subT.cons Z (subT.cons Z (subT.cons Z (subT.cons Z subT.nil))))))))))) ?_
 rintro ⟨ka, hka⟩
 dsimp only
 by_cases hlka : ka < 3
 ·
  obtain ⟨⟨v, k1, k2, k3⟩, hv⟩ : ∃ p, p = ([(w, w1, w2, w3), (wB, g1, g2, g3), (wd0, true, true, true)] : List WP4).getD ka dWP := ⟨_, rfl⟩
  have hvb : v.blocks.length ≤ 1000 := by have h9 := hWs _ (getD_mem (l := ([(w, w1, w2, w3), (wB, g1, g2, g3), (wd0, true, true, true)] : List WP4)) (d := dWP) (show ka < 3 by omega)); rw [← hv] at h9; exact h9
  refine h_seq<|H<|o_cmp Z Z Z K<|o_nil<|h_seq<|h_condt Z (by simp; omega) ?_
  refine h_skip<|h_seq<|h_block<|h_seq<|H<|o_idxv Z Z (by omega) (show _ = some (encWP (v, k1, k2, k3)) from by rw [eltP (d := dWP) (show ((ka : Nat) : Int).toNat < 3 from (by omega : ka < 3))]; simp only [Int.toNat_natCast]; rw [← hv]) rfl K<|o_loadv Z Z K<|o_alloc K fun x9 => ?_
  refine o_store 0 Z Z Z Z Z Z<|o_nil<|h_seq<|H<|O 0 Z Z Z Z K<|O 1 Z Z Z Z K<|o_call1 Z Z EntC.out K (stepF_spec v e _ _ _)<|G Z K<|o_extract Z Z K<|o_extract Z Z K<|o_alloc K fun x10 => ?_
  refine o_store 0 Z Z Z Z Z Z<|S Z K<|o_nil<|h_seq<|H<|O 1 Z Z Z Z K<|O 2 Z Z Z Z K<|o_call1 Z Z EntC.out K (step42F_spec v e (by omega) _ _ _)<|G Z K<|o_extract Z Z K<|o_extract Z Z K<|o_alloc K fun x11 => ?_
  refine o_store 0 Z Z Z Z Z Z<|S Z K<|o_nil<|h_seq<|h_seq<|h_draw _ (List.nil_sublist _) [(0, .val), (1, .flo), (2, .val), (3, .flo), (4, .flo), (5, .flo), (6, .flo), (7, .flo), (8, .flo), (9, .flo), (10, .flo), (11, .val), (12, .val), (13, .bar), (14, .bar), (15, .bar)] mixed (by kernel_rfl)<|c_val Z Z (fun _ _ _ _ jj => O 2 Z Z Z Z K jj)<|C Z Z (fun jj => o_call1 Z Z EntC.out K (mvalid_spec _ _ _ _) jj)<|c_val Z Z (fun _ _ _ _ jj => O 2 Z Z Z Z K jj)<|C Z Z (fun jj => o_call1 Z Z EntC.out K (valid42_spec v (by omega) _ _ _) jj)<|C Z Z (fun jj => o_nebb Z Z K jj)<|C Z Z (fun jj => G Z K jj) ?_
  refine C Z Z (fun jj => W Z Z (by simp) K (G Z K jj)) ?_
  refine C Z Z (fun jj => W Z Z (by simp) K (G Z K jj)) ?_
  refine C Z Z (fun jj => W Z Z (by simp) K (o_cmp Z Z Z K jj)) ?_
  refine C Z Z (fun jj => o_pickf Z (by simp) rfl K jj) ?_
  refine C Z Z (fun jj => G Z K jj)<|c_val Z Z (fun _ _ _ _ jj => W Z Z (by simp) K (O 1 Z Z Z Z K jj)) ?_
  refine c_val Z Z (fun _ _ _ _ jj => W Z Z (by simp) K (O 0 Z Z Z Z K jj)) ?_
  refine c_bar<|W Z Z (by simp) K ?_
  refine o_call1 Z Z EntC.out K (same42_spec _ _ (by first | exact stepM_small _ _ | exact runM_small _ _ | exact atM_small _ _ _) (by first | exact stepM_small _ _ | exact runM_small _ _ | exact atM_small _ _ _) _ _ _ _ _ _) ?_
  refine W Z Z (by simp) K ?_
  refine o_not Z K<|o_pickf Z (by simp) rfl K ?_
  refine o_nil<|h_condf Z (by rw [(eqW_self _)]; rfl)<|h_skip<|h_seq<|h_seq<|H<|S Z K<|o_nil<|h_block<|h_famS (ι := MmI 3) (fun i => [(5, V (u2.map encV) fu2), (7, I a3), (8, V (d2.map encD) fd2), (19, B true), (21, V (ds.map encD) w4), (22, V (l.map encV) fl), (24, V (lB.map encV) g4), (25, .ptr x7 0), (90, V (([(w, w1, w2, w3), (wB, g1, g2, g3), (wd0, true, true, true)] : List WP4).map encWP) true), (91, I ((3 : Nat) : Int)), (92, I (ka : Nat)), (27, .ptr x9 0), (28, .ptr x10 0), (30, .ptr x11 0), (32, I (i.k : Nat))]) (fun i => (x11, .box 32 (cellsW i.q false false false)) :: (x10, .box 32 (cellsW i.p false false false)) :: (x9, .box 32 (cellsW v k1 k2 k3)) :: (x7, .box 41 [I e.kind, I e.t, I e.a, I e.b, I e.c, I e.f, I e.to, I e.m]) :: []) (fun i => 3 - i.k) ⟨0, (stepM v e).1, (stepM v e).1, Nat.zero_le _⟩ (.cons_cons _ (.cons_cons _ (.cons_cons _ (.cons_cons _ (.refl _))))) (subT.cons Z (subT.cons Z (subT.cons Z (subT.cons Z (subT.cons Z (subT.cons Z (subT.cons Z (subT.cons Z (subT.cons Z (subT.cons Z (subT.cons Z (subT.cons Z (subT.cons Z (subT.cons Z (subT.cons Z subT.nil))))))))))))))) ?_
  rintro ⟨kb, p1, q1, hkb⟩
  dsimp only
  by_cases hlt : kb < u2.length
  ·
   by_cases hlb : kb < 3
   ·
    refine h_seq<|h_seq<|H<|G Z K<|G Z K<|o_len Z K<|o_cmp Z Z Z K<|G Z K<|W Z Z (by simp; omega) K ?_
    refine G Z K<|W Z Z (by simp; omega) K ?_
    refine o_cmp Z Z Z K<|o_pickt Z (by simp; omega) rfl K ?_
    refine o_nil<|h_condt Z (by simp; omega) ?_
    refine h_skip<|h_seq<|h_block<|h_seq<|h_draw _ (.cons_cons _ (.cons _ (.cons_cons _ (.cons_cons _ (List.nil_sublist _))))) [(0, .box), (1, .flo), (2, .flo), (3, .flo), (4, .val), (5, .flo), (6, .flo), (7, .flo), (8, .flo), (9, .sto), (10, .flo)] mixed (by kernel_rfl)<|c_box Z Z (fun _ _ _ _ jj => O 1 Z Z Z Z K jj)<|C Z Z (fun jj => G Z K jj)<|C Z Z (fun jj => G Z K jj)<|C Z Z (fun jj => o_idxv Z Z (by omega) (eltV (by simpa using hlt)) rfl K jj) ?_
    refine c_val Z Z (fun _ _ _ _ jj => o_loadv Z Z K jj)<|C Z Z (fun jj => o_call1 Z Z EntC.out K (stepF_spec v (u2.getD ((kb : Nat) : Int).toNat dE) _ _ _) jj)<|C Z Z (fun jj => G Z K jj)<|C Z Z (fun jj => o_extract Z Z K jj)<|C Z Z (fun jj => o_extract Z Z K jj) ?_
    refine c_sto (.cons_cons _ (.cons _ (.cons_cons _ (.cons_cons _ (List.nil_sublist _))))) rfl rfl (fun _ _ _ _ jj => o_store 1 Z Z Z Z Z Z jj)<|C Z Z (fun jj => S Z K jj)<|c_nil<|h_seq<|h_draw _ (.cons _ (.cons_cons _ (.cons_cons _ (.cons_cons _ (List.nil_sublist _))))) [(0, .box), (1, .flo), (2, .flo), (3, .flo), (4, .val), (5, .flo), (6, .flo), (7, .flo), (8, .flo), (9, .sto), (10, .flo)] mixed (by kernel_rfl)<|c_box Z Z (fun _ _ _ _ jj => O 1 Z Z Z Z K jj)<|C Z Z (fun jj => G Z K jj)<|C Z Z (fun jj => G Z K jj)<|C Z Z (fun jj => o_idxv Z Z (by omega) (eltV (by simpa using hlt)) rfl K jj) ?_
    refine c_val Z Z (fun _ _ _ _ jj => o_loadv Z Z K jj)<|C Z Z (fun jj => o_call1 Z Z EntC.out K (step42F_spec v (u2.getD ((kb : Nat) : Int).toNat dE) (by omega) _ _ _) jj)<|C Z Z (fun jj => G Z K jj)<|C Z Z (fun jj => o_extract Z Z K jj)<|C Z Z (fun jj => o_extract Z Z K jj) ?_
    refine c_sto (.cons _ (.cons_cons _ (.cons_cons _ (.cons_cons _ (List.nil_sublist _))))) rfl rfl (fun _ _ _ _ jj => o_store 0 Z Z Z Z Z Z jj)<|C Z Z (fun jj => S Z K jj)<|c_nil<|h_seq<|H<|G Z K<|G Z K<|o_cmp Z Z Z K<|G Z K<|W Z Z (by simp) K ?_
    refine O 1 Z Z Z Z K<|W Z Z (by simp) K ?_
    refine O 0 Z Z Z Z K<|W Z Z (by simp) K ?_
    refine o_call1 Z Z EntC.out K (same42_spec _ _ (by first | exact stepM_small _ _ | exact runM_small _ _ | exact atM_small _ _ _) (by first | exact stepM_small _ _ | exact runM_small _ _ | exact atM_small _ _ _) _ _ _ _ _ _) ?_
    refine W Z Z (by simp) K ?_
    refine o_not Z K<|o_pickf Z (by simp) rfl K ?_
    refine o_nil<|h_condf Z (by rw [(eqW_self _)]; rfl)<|h_skip<|H<|G Z K<|o_add Z Z (by unfold in64; (try dsimp only); omega) K ?_
    refine S Z K<|o_nil<|back rfl ⟨kb + 1, (stepM v (u2.getD ((kb : Nat) : Int).toNat dE)).1, (stepM v (u2.getD ((kb : Nat) : Int).toNat dE)).1, hlb⟩ (by dsimp only; omega) (.cons_cons _ (.cons_cons _ (.cons_cons _ (.cons_cons _ (.refl _))))) (subT.cons Z (subT.cons Z (subT.cons Z (subT.cons Z (subT.cons Z (subT.cons Z (subT.cons Z (subT.cons Z (subT.cons Z (subT.cons Z (subT.cons Z (subT.cons Z (subT.cons Z (subT.cons Z (subT.cons Z subT.nil)))))))))))))))
   ·
    refine h_seq<|h_seq<|H<|G Z K<|G Z K<|o_len Z K<|o_cmp Z Z Z K<|G Z K<|W Z Z (by simp; omega) K ?_
    refine G Z K<|W Z Z (by simp; omega) K ?_
    refine o_cmp Z Z Z K<|o_pickt Z (by simp; omega) rfl K ?_
    refine o_nil<|h_condf Z (by simp <;> omega) ?_
    refine h_exit<|h_seq<|H<|G Z K<|G Z K<|G Z K<|o_buildSlicep Z (by rfl) (by rfl) (by rfl) (by rfl) K ?_
    refine G Z K<|o_appendr Z Z okB_V (by simp only [List.length_map]; omega) K fun v9 hh9 hA9 => ?_
    refine G Z K<|o_appends hA9 rfl rfl okB_V (by simp only [List.length_map]; omega) K fun f9 => ?_
    refine o_buildSlicep Z (by rfl) (by rfl) (by rfl) (by rfl) K ?_
    refine o_len Z K<|G Z K<|o_nil ?_
    rw [← List.map_append]
    refine h_block ?_
    have hLs : ∀ p ∈ ([(l, fl), (lB, g4), (u2, fu2), (l ++ u2, f9)] : List (List Ev × Bool)), p.1.length ≤ 1000 := by intro p hp; simp only [List.mem_cons, List.not_mem_nil, or_false] at hp; rcases hp with rfl | rfl | rfl | rfl; (dsimp only; omega); (dsimp only; omega); (dsimp only; omega); (dsimp only; rw [List.length_append]; omega)
    refine h_famS (ι := {k : Nat // k ≤ 4}) (fun i => [(5, V (u2.map encV) fu2), (7, I a3), (8, V (d2.map encD) fd2), (19, B true), (21, V (ds.map encD) w4), (22, V (l.map encV) fl), (24, V (lB.map encV) g4), (25, .ptr x7 0), (90, V (([(w, w1, w2, w3), (wB, g1, g2, g3), (wd0, true, true, true)] : List WP4).map encWP) true), (91, I ((3 : Nat) : Int)), (92, I (ka : Nat)), (27, .ptr x9 0), (169, V (([(l, fl), (lB, g4), (u2, fu2), (l ++ u2, f9)] : List (List Ev × Bool)).map encLP) true), (170, I ((4 : Nat) : Int)), (171, I (i.1 : Nat))]) (fun i => (x9, .box 32 (cellsW v k1 k2 k3)) :: (x7, .box 41 [I e.kind, I e.t, I e.a, I e.b, I e.c, I e.f, I e.to, I e.m]) :: []) (fun i => 4 - i.1) ⟨0, Nat.zero_le _⟩ (.cons _ (.cons _ (.cons_cons _ (.cons_cons _ (.refl _))))) (subT.cons Z (subT.cons Z (subT.cons Z (subT.cons Z (subT.cons Z (subT.cons Z (subT.cons Z (subT.cons Z (subT.cons Z (subT.cons Z (subT.cons Z (subT.cons Z (subT.cons Z (subT.cons Z (subT.cons Z subT.nil))))))))))))))) ?_
    rintro ⟨kc, hkc⟩
    dsimp only
    by_cases hlkc : kc < 4
    ·
     obtain ⟨⟨L, fL⟩, hL⟩ : ∃ p, p = ([(l, fl), (lB, g4), (u2, fu2), (l ++ u2, f9)] : List (List Ev × Bool)).getD kc ([], true) := ⟨_, rfl⟩
     have hLl : L.length ≤ 1000 := by have h9 := hLs _ (getD_mem (l := ([(l, fl), (lB, g4), (u2, fu2), (l ++ u2, f9)] : List (List Ev × Bool))) (d := ([], true)) (show kc < 4 by omega)); rw [← hL] at h9; exact h9
     refine h_seq<|H<|o_cmp Z Z Z K<|o_nil<|h_seq<|h_condt Z (by simp; omega) ?_
     refine h_skip<|h_seq<|h_block<|h_seq<|H<|o_idxv Z Z (by omega) (show _ = some (encLP (L, fL)) from by rw [eltP (d := ([], true)) (show ((kc : Nat) : Int).toNat < 4 from (by omega : kc < 4))]; simp only [Int.toNat_natCast]; rw [← hL]) rfl K<|o_loadv Z Z K<|S Z K<|o_nil<|h_seq<|H<|O 0 Z Z Z Z K ?_
     refine G Z K<|o_call1 Z Z EntC.out K (runF_spec v L (by omega) _ _ _ _)<|G Z K<|o_extract Z Z K<|o_extract Z Z K<|o_extract Z Z K<|o_alloc K fun x24 => ?_
     refine o_store 0 Z Z Z Z Z Z<|S Z K<|S Z K<|o_nil<|h_seq<|H<|O 1 Z Z Z Z K<|G Z K<|o_call1 Z Z EntC.out K (run42F_spec v L (by omega) (by omega) _ _ _ _)<|G Z K<|o_extract Z Z K<|o_extract Z Z K ?_
     refine o_extract Z Z K<|o_alloc K fun x25 => ?_
     refine o_store 0 Z Z Z Z Z Z<|S Z K<|S Z K<|o_nil<|h_seq<|h_seq<|H<|G Z K<|G Z K<|o_cmp Z Z Z K<|G Z K<|W Z Z (by simp) K ?_
     refine G Z K<|W Z Z (by simp) K ?_
     refine G Z K<|W Z Z (by simp) K ?_
     refine o_cmp Z Z Z K<|o_pickf Z (by simp) rfl K ?_
     refine G Z K<|W Z Z (by simp) K ?_
     refine O 1 Z Z Z Z K<|W Z Z (by simp) K ?_
     refine O 0 Z Z Z Z K<|W Z Z (by simp) K ?_
     refine o_call1 Z Z EntC.out K (same42_spec _ _ (by first | exact stepM_small _ _ | exact runM_small _ _ | exact atM_small _ _ _) (by first | exact stepM_small _ _ | exact runM_small _ _ | exact atM_small _ _ _) _ _ _ _ _ _) ?_
     refine W Z Z (by simp) K ?_
     refine o_not Z K<|o_pickf Z (by simp) rfl K ?_
     refine o_nil<|h_condf Z (by rw [(eqW_self _)]; rfl)<|h_skip<|h_seq<|h_seq<|H<|G Z K<|G Z K ?_
     refine o_call1 Z Z EntC.out K (pickL_spec _ _ ha3 K)<|o_buildSlicep Z (by rfl) (by rfl) (by rfl) (by rfl) K ?_
     refine o_len Z K<|G Z K<|o_nil<|h_block<|h_famS (ι := MmI 2) (fun i => [(5, V (u2.map encV) fu2), (7, I a3), (8, V (d2.map encD) fd2), (19, B true), (21, V (ds.map encD) w4), (22, V (l.map encV) fl), (24, V (lB.map encV) g4), (25, .ptr x7 0), (90, V (([(w, w1, w2, w3), (wB, g1, g2, g3), (wd0, true, true, true)] : List WP4).map encWP) true), (91, I ((3 : Nat) : Int)), (92, I (ka : Nat)), (27, .ptr x9 0), (169, V (([(l, fl), (lB, g4), (u2, fu2), (l ++ u2, f9)] : List (List Ev × Bool)).map encLP) true), (170, I ((4 : Nat) : Int)), (171, I (kc : Nat)), (34, V (L.map encV) fL), (35, .ptr x24 0), (38, .ptr x25 0), (206, V ([a3, pickM a3 40].map encI) true), (207, I ((2 : Nat) : Int)), (208, I (i.k : Nat))]) (fun i => (x25, .box 32 (cellsW i.q false false false)) :: (x24, .box 32 (cellsW i.p false false false)) :: (x9, .box 32 (cellsW v k1 k2 k3)) :: (x7, .box 41 [I e.kind, I e.t, I e.a, I e.b, I e.c, I e.f, I e.to, I e.m]) :: []) (fun i => 2 - i.k) ⟨0, (runM v L).1, (runM v L).1, Nat.zero_le _⟩ (.cons_cons _ (.cons_cons _ (.cons_cons _ (.cons_cons _ (.refl _))))) (subT.cons Z (subT.cons Z (subT.cons Z (subT.cons Z (subT.cons Z (subT.cons Z (subT.cons Z (subT.cons Z (subT.cons Z (subT.cons Z (subT.cons Z (subT.cons Z (subT.cons Z (subT.cons Z (subT.cons Z (subT.cons Z (subT.cons Z (subT.cons Z (subT.cons Z (subT.cons Z (subT.cons Z subT.nil))))))))))))))))))))) ?_
     rintro ⟨kd, p3, q3, hkd⟩
     dsimp only
     by_cases hlkd : kd < 2
     ·
      refine h_seq<|H<|o_cmp Z Z Z K<|o_nil<|h_seq<|h_condt Z (by simp; omega) ?_
      refine h_skip<|h_seq<|h_block<|h_seq<|H<|o_idxv Z Z (by omega) (eltIn (by show _ < 2; omega)) rfl K<|o_loadv Z Z K<|S Z K<|o_nil<|h_seq<|H<|O 2 Z Z Z Z K ?_
      refine G Z K<|G Z K<|o_call1 Z Z EntC.out K (atF_spec v L ([a3, pickM a3 40].getD ((kd : Nat) : Int).toNat 0) (by omega) _ _ _ _)<|G Z K<|o_extract Z Z K<|o_extract Z Z K ?_
      refine o_store 1 Z Z Z Z Z Z<|S Z K<|o_nil<|h_seq<|H<|O 2 Z Z Z Z K<|G Z K<|G Z K<|o_call1 Z Z EntC.out K (at42F_spec v L ([a3, pickM a3 40].getD ((kd : Nat) : Int).toNat 0) (by omega) (by omega) _ _ _ _)<|G Z K<|o_extract Z Z K<|o_extract Z Z K ?_
      refine o_store 0 Z Z Z Z Z Z<|S Z K<|o_nil<|h_seq<|H<|G Z K<|G Z K<|o_cmp Z Z Z K<|G Z K<|W Z Z (by simp) K ?_
      refine O 1 Z Z Z Z K<|W Z Z (by simp) K ?_
      refine O 0 Z Z Z Z K<|W Z Z (by simp) K ?_
      refine o_call1 Z Z EntC.out K (same42_spec _ _ (by first | exact stepM_small _ _ | exact runM_small _ _ | exact atM_small _ _ _) (by first | exact stepM_small _ _ | exact runM_small _ _ | exact atM_small _ _ _) _ _ _ _ _ _) ?_
      refine W Z Z (by simp) K ?_
      refine o_not Z K<|o_pickf Z (by simp) rfl K ?_
      refine o_nil<|h_condf Z (by rw [(eqW_self _)]; rfl)<|h_skip<|H<|o_add Z Z (by unfold in64; (try dsimp only); omega) K ?_
      refine G Z K<|o_nil<|back rfl ⟨kd + 1, (atMW v L ([a3, pickM a3 40].getD ((kd : Nat) : Int).toNat 0)).1, (atMW v L ([a3, pickM a3 40].getD ((kd : Nat) : Int).toNat 0)).1, hlkd⟩ (by dsimp only; omega) (.cons_cons _ (.cons_cons _ (.cons_cons _ (.cons_cons _ (.refl _))))) (subT.cons Z (subT.cons Z (subT.cons Z (subT.cons Z (subT.cons Z (subT.cons Z (subT.cons Z (subT.cons Z (subT.cons Z (subT.cons Z (subT.cons Z (subT.cons Z (subT.cons Z (subT.cons Z (subT.cons Z (subT.cons Z (subT.cons Z (subT.cons Z (subT.cons Z (subT.cons Z (subT.cons Z subT.nil)))))))))))))))))))))
     ·
      refine h_seq<|H<|o_cmp Z Z Z K<|o_nil<|h_seq<|h_condf Z (by simp <;> omega) ?_
      refine h_exit<|h_seq<|H<|G Z K<|G Z K<|o_buildSlicep Z (by rfl) (by rfl) (by rfl) (by rfl) K ?_
      refine o_len Z K<|G Z K<|o_nil<|h_block ?_
      have hDs : ∀ p ∈ ([(ds, w4), (d2, fd2)] : List (List Dbt × Bool)), p.1.length ≤ 1000 := by intro p hp; simp only [List.mem_cons, List.not_mem_nil, or_false] at hp; rcases hp with rfl | rfl <;> (dsimp only; omega)
      refine h_famS (ι := {k : Nat // k ≤ 2}) (fun i => [(5, V (u2.map encV) fu2), (7, I a3), (8, V (d2.map encD) fd2), (19, B true), (21, V (ds.map encD) w4), (22, V (l.map encV) fl), (24, V (lB.map encV) g4), (25, .ptr x7 0), (90, V (([(w, w1, w2, w3), (wB, g1, g2, g3), (wd0, true, true, true)] : List WP4).map encWP) true), (91, I ((3 : Nat) : Int)), (92, I (ka : Nat)), (27, .ptr x9 0), (169, V (([(l, fl), (lB, g4), (u2, fu2), (l ++ u2, f9)] : List (List Ev × Bool)).map encLP) true), (170, I ((4 : Nat) : Int)), (171, I (kc : Nat)), (34, V (L.map encV) fL), (238, V (([(ds, w4), (d2, fd2)] : List (List Dbt × Bool)).map encDP) true), (239, I ((2 : Nat) : Int)), (240, I (i.1 : Nat))]) (fun i => (x9, .box 32 (cellsW v k1 k2 k3)) :: (x7, .box 41 [I e.kind, I e.t, I e.a, I e.b, I e.c, I e.f, I e.to, I e.m]) :: []) (fun i => 2 - i.1) ⟨0, Nat.zero_le _⟩ (.cons _ (.cons _ (.cons_cons _ (.cons_cons _ (.refl _))))) (subT.cons Z (subT.cons Z (subT.cons Z (subT.cons Z (subT.cons Z (subT.cons Z (subT.cons Z (subT.cons Z (subT.cons Z (subT.cons Z (subT.cons Z (subT.cons Z (subT.cons Z (subT.cons Z (subT.cons Z (subT.cons Z (subT.cons Z (subT.cons Z (subT.cons Z subT.nil))))))))))))))))))) ?_
      rintro ⟨kf, hkf⟩
      dsimp only
      by_cases hlkf : kf < 2
      ·
       obtain ⟨⟨D, fD⟩, hD⟩ : ∃ p, p = ([(ds, w4), (d2, fd2)] : List (List Dbt × Bool)).getD kf ([], true) := ⟨_, rfl⟩
       have hDl : D.length ≤ 1000 := by have h9 := hDs _ (getD_mem (l := ([(ds, w4), (d2, fd2)] : List (List Dbt × Bool))) (d := ([], true)) (show kf < 2 by omega)); rw [← hD] at h9; exact h9
       refine h_seq<|H<|o_cmp Z Z Z K<|o_nil<|h_seq<|h_condt Z (by simp; omega) ?_
       refine h_skip<|h_seq<|h_block<|h_seq<|H<|o_idxv Z Z (by omega) (show _ = some (encDP (D, fD)) from by rw [eltP (d := ([], true)) (show ((kf : Nat) : Int).toNat < 2 from (by omega : kf < 2))]; simp only [Int.toNat_natCast]; rw [← hD]) rfl K<|o_loadv Z Z K<|S Z K<|o_nil<|h_seq<|H<|O 0 Z Z Z Z K ?_
       refine G Z K<|G Z K<|o_call1 Z Z EntC.out K (debtsF_spec v L (by omega) _ _ _ _ D (by omega) _)<|G Z K<|o_extract Z Z K<|o_extract Z Z K<|S Z K<|S Z K<|o_nil<|h_seq<|H<|O 0 Z Z Z Z K ?_
       refine G Z K<|G Z K<|o_call1 Z Z EntC.out K (debts42F_spec v L (by omega) (by omega) _ _ _ _ D (by omega) _)<|G Z K<|o_extract Z Z K<|o_extract Z Z K<|S Z K<|S Z K<|o_nil<|h_seq<|H<|G Z K ?_
       refine G Z K<|o_cmp Z Z Z K<|G Z K<|W Z Z (by simp) K ?_
       refine G Z K<|W Z Z (by simp) K ?_
       refine G Z K<|W Z Z (by simp) K ?_
       refine o_call1 Z Z EntC.out K (sameD_spec _ (by have := debtsM_len v L D; omega) _ _) ?_
       refine W Z Z (by simp) K ?_
       refine o_not Z K<|o_pickf Z (by simp) rfl K ?_
       refine o_nil<|h_condf Z Z<|h_skip<|H<|o_add Z Z (by unfold in64; (try dsimp only); omega) K ?_
       refine G Z K<|o_nil<|back rfl ⟨kf + 1, hlkf⟩ (by dsimp only; omega) (.cons_cons _ (.cons_cons _ (.refl _))) (subT.cons Z (subT.cons Z (subT.cons Z (subT.cons Z (subT.cons Z (subT.cons Z (subT.cons Z (subT.cons Z (subT.cons Z (subT.cons Z (subT.cons Z (subT.cons Z (subT.cons Z (subT.cons Z (subT.cons Z (subT.cons Z (subT.cons Z (subT.cons Z (subT.cons Z subT.nil)))))))))))))))))))
      ·
       refine h_seq<|H<|o_cmp Z Z Z K<|o_nil<|h_seq<|h_condf Z (by simp <;> omega) ?_
       refine h_exit<|H<|o_add Z Z (by unfold in64; (try dsimp only); omega) K ?_
       refine G Z K<|o_nil<|back rfl ⟨kc + 1, hlkc⟩ (by dsimp only; omega) (.cons_cons _ (.cons_cons _ (.refl _))) (subT.cons Z (subT.cons Z (subT.cons Z (subT.cons Z (subT.cons Z (subT.cons Z (subT.cons Z (subT.cons Z (subT.cons Z (subT.cons Z (subT.cons Z (subT.cons Z (subT.cons Z (subT.cons Z (subT.cons Z subT.nil)))))))))))))))
    ·
     refine h_seq<|H<|o_cmp Z Z Z K<|o_nil<|h_seq<|h_condf Z (by simp <;> omega) ?_
     refine h_exit<|H<|o_add Z Z (by unfold in64; (try dsimp only); omega) K ?_
     refine G Z K<|o_nil<|back rfl ⟨ka + 1, hlka⟩ (by dsimp only; omega) (.cons _ (.cons_cons _ (.refl _))) (subT.cons Z (subT.cons Z (subT.cons Z (subT.cons Z (subT.cons Z (subT.cons Z (subT.cons Z (subT.cons Z (subT.cons Z (subT.cons Z (subT.cons Z subT.nil)))))))))))
  ·
   refine h_seq<|h_seq<|H<|G Z K<|G Z K<|o_len Z K<|o_cmp Z Z Z K<|G Z K<|U Z Z (by simp <;> omega) K ?_
   refine U Z Z (by simp <;> omega) K ?_
   refine o_pickf Z (by simp <;> omega) rfl K ?_
   refine o_nil<|h_condf Z Z<|h_exit<|h_seq<|H<|G Z K<|G Z K<|G Z K<|o_buildSlicep Z (by rfl) (by rfl) (by rfl) (by rfl) K ?_
   refine G Z K<|o_appendr Z Z okB_V (by simp only [List.length_map]; omega) K fun v9 hh9 hA9 => ?_
   refine G Z K<|o_appends hA9 rfl rfl okB_V (by simp only [List.length_map]; omega) K fun f9 => ?_
   refine o_buildSlicep Z (by rfl) (by rfl) (by rfl) (by rfl) K ?_
   refine o_len Z K<|G Z K<|o_nil ?_
   rw [← List.map_append]
   refine h_block ?_
   have hLs : ∀ p ∈ ([(l, fl), (lB, g4), (u2, fu2), (l ++ u2, f9)] : List (List Ev × Bool)), p.1.length ≤ 1000 := by intro p hp; simp only [List.mem_cons, List.not_mem_nil, or_false] at hp; rcases hp with rfl | rfl | rfl | rfl; (dsimp only; omega); (dsimp only; omega); (dsimp only; omega); (dsimp only; rw [List.length_append]; omega)
   refine h_famS (ι := {k : Nat // k ≤ 4}) (fun i => [(5, V (u2.map encV) fu2), (7, I a3), (8, V (d2.map encD) fd2), (19, B true), (21, V (ds.map encD) w4), (22, V (l.map encV) fl), (24, V (lB.map encV) g4), (25, .ptr x7 0), (90, V (([(w, w1, w2, w3), (wB, g1, g2, g3), (wd0, true, true, true)] : List WP4).map encWP) true), (91, I ((3 : Nat) : Int)), (92, I (ka : Nat)), (27, .ptr x9 0), (169, V (([(l, fl), (lB, g4), (u2, fu2), (l ++ u2, f9)] : List (List Ev × Bool)).map encLP) true), (170, I ((4 : Nat) : Int)), (171, I (i.1 : Nat))]) (fun i => (x9, .box 32 (cellsW v k1 k2 k3)) :: (x7, .box 41 [I e.kind, I e.t, I e.a, I e.b, I e.c, I e.f, I e.to, I e.m]) :: []) (fun i => 4 - i.1) ⟨0, Nat.zero_le _⟩ (.cons _ (.cons _ (.cons_cons _ (.cons_cons _ (.refl _))))) (subT.cons Z (subT.cons Z (subT.cons Z (subT.cons Z (subT.cons Z (subT.cons Z (subT.cons Z (subT.cons Z (subT.cons Z (subT.cons Z (subT.cons Z (subT.cons Z (subT.cons Z (subT.cons Z (subT.cons Z subT.nil))))))))))))))) ?_
   rintro ⟨kc, hkc⟩
   dsimp only
   by_cases hlkc : kc < 4
   ·
    obtain ⟨⟨L, fL⟩, hL⟩ : ∃ p, p = ([(l, fl), (lB, g4), (u2, fu2), (l ++ u2, f9)] : List (List Ev × Bool)).getD kc ([], true) := ⟨_, rfl⟩
    have hLl : L.length ≤ 1000 := by have h9 := hLs _ (getD_mem (l := ([(l, fl), (lB, g4), (u2, fu2), (l ++ u2, f9)] : List (List Ev × Bool))) (d := ([], true)) (show kc < 4 by omega)); rw [← hL] at h9; exact h9
    refine h_seq<|H<|o_cmp Z Z Z K<|o_nil<|h_seq<|h_condt Z (by simp; omega) ?_
    refine h_skip<|h_seq<|h_block<|h_seq<|H<|o_idxv Z Z (by omega) (show _ = some (encLP (L, fL)) from by rw [eltP (d := ([], true)) (show ((kc : Nat) : Int).toNat < 4 from (by omega : kc < 4))]; simp only [Int.toNat_natCast]; rw [← hL]) rfl K<|o_loadv Z Z K<|S Z K<|o_nil<|h_seq<|H<|O 0 Z Z Z Z K ?_
    refine G Z K<|o_call1 Z Z EntC.out K (runF_spec v L (by omega) _ _ _ _)<|G Z K<|o_extract Z Z K<|o_extract Z Z K<|o_extract Z Z K<|o_alloc K fun x39 => ?_
    refine o_store 0 Z Z Z Z Z Z<|S Z K<|S Z K<|o_nil<|h_seq<|H<|O 1 Z Z Z Z K<|G Z K<|o_call1 Z Z EntC.out K (run42F_spec v L (by omega) (by omega) _ _ _ _)<|G Z K<|o_extract Z Z K<|o_extract Z Z K ?_
    refine o_extract Z Z K<|o_alloc K fun x40 => ?_
    refine o_store 0 Z Z Z Z Z Z<|S Z K<|S Z K<|o_nil<|h_seq<|h_seq<|H<|G Z K<|G Z K<|o_cmp Z Z Z K<|G Z K<|W Z Z (by simp) K ?_
    refine G Z K<|W Z Z (by simp) K ?_
    refine G Z K<|W Z Z (by simp) K ?_
    refine o_cmp Z Z Z K<|o_pickf Z (by simp) rfl K ?_
    refine G Z K<|W Z Z (by simp) K ?_
    refine O 1 Z Z Z Z K<|W Z Z (by simp) K ?_
    refine O 0 Z Z Z Z K<|W Z Z (by simp) K ?_
    refine o_call1 Z Z EntC.out K (same42_spec _ _ (by first | exact stepM_small _ _ | exact runM_small _ _ | exact atM_small _ _ _) (by first | exact stepM_small _ _ | exact runM_small _ _ | exact atM_small _ _ _) _ _ _ _ _ _) ?_
    refine W Z Z (by simp) K ?_
    refine o_not Z K<|o_pickf Z (by simp) rfl K ?_
    refine o_nil<|h_condf Z (by rw [(eqW_self _)]; rfl)<|h_skip<|h_seq<|h_seq<|H<|G Z K<|G Z K ?_
    refine o_call1 Z Z EntC.out K (pickL_spec _ _ ha3 K)<|o_buildSlicep Z (by rfl) (by rfl) (by rfl) (by rfl) K ?_
    refine o_len Z K<|G Z K<|o_nil<|h_block<|h_famS (ι := MmI 2) (fun i => [(5, V (u2.map encV) fu2), (7, I a3), (8, V (d2.map encD) fd2), (19, B true), (21, V (ds.map encD) w4), (22, V (l.map encV) fl), (24, V (lB.map encV) g4), (25, .ptr x7 0), (90, V (([(w, w1, w2, w3), (wB, g1, g2, g3), (wd0, true, true, true)] : List WP4).map encWP) true), (91, I ((3 : Nat) : Int)), (92, I (ka : Nat)), (27, .ptr x9 0), (169, V (([(l, fl), (lB, g4), (u2, fu2), (l ++ u2, f9)] : List (List Ev × Bool)).map encLP) true), (170, I ((4 : Nat) : Int)), (171, I (kc : Nat)), (34, V (L.map encV) fL), (35, .ptr x39 0), (38, .ptr x40 0), (206, V ([a3, pickM a3 40].map encI) true), (207, I ((2 : Nat) : Int)), (208, I (i.k : Nat))]) (fun i => (x40, .box 32 (cellsW i.q false false false)) :: (x39, .box 32 (cellsW i.p false false false)) :: (x9, .box 32 (cellsW v k1 k2 k3)) :: (x7, .box 41 [I e.kind, I e.t, I e.a, I e.b, I e.c, I e.f, I e.to, I e.m]) :: []) (fun i => 2 - i.k) ⟨0, (runM v L).1, (runM v L).1, Nat.zero_le _⟩ (.cons_cons _ (.cons_cons _ (.cons_cons _ (.cons_cons _ (.refl _))))) (subT.cons Z (subT.cons Z (subT.cons Z (subT.cons Z (subT.cons Z (subT.cons Z (subT.cons Z (subT.cons Z (subT.cons Z (subT.cons Z (subT.cons Z (subT.cons Z (subT.cons Z (subT.cons Z (subT.cons Z (subT.cons Z (subT.cons Z (subT.cons Z (subT.cons Z (subT.cons Z (subT.cons Z subT.nil))))))))))))))))))))) ?_
    rintro ⟨kd, p3, q3, hkd⟩
    dsimp only
    by_cases hlkd : kd < 2
    ·
     refine h_seq<|H<|o_cmp Z Z Z K<|o_nil<|h_seq<|h_condt Z (by simp; omega) ?_
     refine h_skip<|h_seq<|h_block<|h_seq<|H<|o_idxv Z Z (by omega) (eltIn (by show _ < 2; omega)) rfl K<|o_loadv Z Z K<|S Z K<|o_nil<|h_seq<|H<|O 2 Z Z Z Z K ?_
     refine G Z K<|G Z K<|o_call1 Z Z EntC.out K (atF_spec v L ([a3, pickM a3 40].getD ((kd : Nat) : Int).toNat 0) (by omega) _ _ _ _)<|G Z K<|o_extract Z Z K<|o_extract Z Z K ?_
     refine o_store 1 Z Z Z Z Z Z<|S Z K<|o_nil<|h_seq<|H<|O 2 Z Z Z Z K<|G Z K<|G Z K<|o_call1 Z Z EntC.out K (at42F_spec v L ([a3, pickM a3 40].getD ((kd : Nat) : Int).toNat 0) (by omega) (by omega) _ _ _ _)<|G Z K<|o_extract Z Z K<|o_extract Z Z K ?_
     refine o_store 0 Z Z Z Z Z Z<|S Z K<|o_nil<|h_seq<|H<|G Z K<|G Z K<|o_cmp Z Z Z K<|G Z K<|W Z Z (by simp) K ?_
     refine O 1 Z Z Z Z K<|W Z Z (by simp) K ?_
     refine O 0 Z Z Z Z K<|W Z Z (by simp) K ?_
     refine o_call1 Z Z EntC.out K (same42_spec _ _ (by first | exact stepM_small _ _ | exact runM_small _ _ | exact atM_small _ _ _) (by first | exact stepM_small _ _ | exact runM_small _ _ | exact atM_small _ _ _) _ _ _ _ _ _) ?_
     refine W Z Z (by simp) K ?_
     refine o_not Z K<|o_pickf Z (by simp) rfl K ?_
     refine o_nil<|h_condf Z (by rw [(eqW_self _)]; rfl)<|h_skip<|H<|o_add Z Z (by unfold in64; (try dsimp only); omega) K ?_
     refine G Z K<|o_nil<|back rfl ⟨kd + 1, (atMW v L ([a3, pickM a3 40].getD ((kd : Nat) : Int).toNat 0)).1, (atMW v L ([a3, pickM a3 40].getD ((kd : Nat) : Int).toNat 0)).1, hlkd⟩ (by dsimp only; omega) (.cons_cons _ (.cons_cons _ (.cons_cons _ (.cons_cons _ (.refl _))))) (subT.cons Z (subT.cons Z (subT.cons Z (subT.cons Z (subT.cons Z (subT.cons Z (subT.cons Z (subT.cons Z (subT.cons Z (subT.cons Z (subT.cons Z (subT.cons Z (subT.cons Z (subT.cons Z (subT.cons Z (subT.cons Z (subT.cons Z (subT.cons Z (subT.cons Z (subT.cons Z (subT.cons Z subT.nil)))))))))))))))))))))
    ·
     refine h_seq<|H<|o_cmp Z Z Z K<|o_nil<|h_seq<|h_condf Z (by simp <;> omega) ?_
     refine h_exit<|h_seq<|H<|G Z K<|G Z K<|o_buildSlicep Z (by rfl) (by rfl) (by rfl) (by rfl) K ?_
     refine o_len Z K<|G Z K<|o_nil<|h_block ?_
     have hDs : ∀ p ∈ ([(ds, w4), (d2, fd2)] : List (List Dbt × Bool)), p.1.length ≤ 1000 := by intro p hp; simp only [List.mem_cons, List.not_mem_nil, or_false] at hp; rcases hp with rfl | rfl <;> (dsimp only; omega)
     refine h_famS (ι := {k : Nat // k ≤ 2}) (fun i => [(5, V (u2.map encV) fu2), (7, I a3), (8, V (d2.map encD) fd2), (19, B true), (21, V (ds.map encD) w4), (22, V (l.map encV) fl), (24, V (lB.map encV) g4), (25, .ptr x7 0), (90, V (([(w, w1, w2, w3), (wB, g1, g2, g3), (wd0, true, true, true)] : List WP4).map encWP) true), (91, I ((3 : Nat) : Int)), (92, I (ka : Nat)), (27, .ptr x9 0), (169, V (([(l, fl), (lB, g4), (u2, fu2), (l ++ u2, f9)] : List (List Ev × Bool)).map encLP) true), (170, I ((4 : Nat) : Int)), (171, I (kc : Nat)), (34, V (L.map encV) fL), (238, V (([(ds, w4), (d2, fd2)] : List (List Dbt × Bool)).map encDP) true), (239, I ((2 : Nat) : Int)), (240, I (i.1 : Nat))]) (fun i => (x9, .box 32 (cellsW v k1 k2 k3)) :: (x7, .box 41 [I e.kind, I e.t, I e.a, I e.b, I e.c, I e.f, I e.to, I e.m]) :: []) (fun i => 2 - i.1) ⟨0, Nat.zero_le _⟩ (.cons _ (.cons _ (.cons_cons _ (.cons_cons _ (.refl _))))) (subT.cons Z (subT.cons Z (subT.cons Z (subT.cons Z (subT.cons Z (subT.cons Z (subT.cons Z (subT.cons Z (subT.cons Z (subT.cons Z (subT.cons Z (subT.cons Z (subT.cons Z (subT.cons Z (subT.cons Z (subT.cons Z (subT.cons Z (subT.cons Z (subT.cons Z subT.nil))))))))))))))))))) ?_
     rintro ⟨kf, hkf⟩
     dsimp only
     by_cases hlkf : kf < 2
     ·
      obtain ⟨⟨D, fD⟩, hD⟩ : ∃ p, p = ([(ds, w4), (d2, fd2)] : List (List Dbt × Bool)).getD kf ([], true) := ⟨_, rfl⟩
      have hDl : D.length ≤ 1000 := by have h9 := hDs _ (getD_mem (l := ([(ds, w4), (d2, fd2)] : List (List Dbt × Bool))) (d := ([], true)) (show kf < 2 by omega)); rw [← hD] at h9; exact h9
      refine h_seq<|H<|o_cmp Z Z Z K<|o_nil<|h_seq<|h_condt Z (by simp; omega) ?_
      refine h_skip<|h_seq<|h_block<|h_seq<|H<|o_idxv Z Z (by omega) (show _ = some (encDP (D, fD)) from by rw [eltP (d := ([], true)) (show ((kf : Nat) : Int).toNat < 2 from (by omega : kf < 2))]; simp only [Int.toNat_natCast]; rw [← hD]) rfl K<|o_loadv Z Z K<|S Z K<|o_nil<|h_seq<|H<|O 0 Z Z Z Z K ?_
      refine G Z K<|G Z K<|o_call1 Z Z EntC.out K (debtsF_spec v L (by omega) _ _ _ _ D (by omega) _)<|G Z K<|o_extract Z Z K<|o_extract Z Z K<|S Z K<|S Z K<|o_nil<|h_seq<|H<|O 0 Z Z Z Z K ?_
      refine G Z K<|G Z K<|o_call1 Z Z EntC.out K (debts42F_spec v L (by omega) (by omega) _ _ _ _ D (by omega) _)<|G Z K<|o_extract Z Z K<|o_extract Z Z K<|S Z K<|S Z K<|o_nil<|h_seq<|H<|G Z K ?_
      refine G Z K<|o_cmp Z Z Z K<|G Z K<|W Z Z (by simp) K ?_
      refine G Z K<|W Z Z (by simp) K ?_
      refine G Z K<|W Z Z (by simp) K ?_
      refine o_call1 Z Z EntC.out K (sameD_spec _ (by have := debtsM_len v L D; omega) _ _) ?_
      refine W Z Z (by simp) K ?_
      refine o_not Z K<|o_pickf Z (by simp) rfl K ?_
      refine o_nil<|h_condf Z Z<|h_skip<|H<|o_add Z Z (by unfold in64; (try dsimp only); omega) K ?_
      refine G Z K<|o_nil<|back rfl ⟨kf + 1, hlkf⟩ (by dsimp only; omega) (.cons_cons _ (.cons_cons _ (.refl _))) (subT.cons Z (subT.cons Z (subT.cons Z (subT.cons Z (subT.cons Z (subT.cons Z (subT.cons Z (subT.cons Z (subT.cons Z (subT.cons Z (subT.cons Z (subT.cons Z (subT.cons Z (subT.cons Z (subT.cons Z (subT.cons Z (subT.cons Z (subT.cons Z (subT.cons Z subT.nil)))))))))))))))))))
     ·
      refine h_seq<|H<|o_cmp Z Z Z K<|o_nil<|h_seq<|h_condf Z (by simp <;> omega) ?_
      refine h_exit<|H<|o_add Z Z (by unfold in64; (try dsimp only); omega) K ?_
      refine G Z K<|o_nil<|back rfl ⟨kc + 1, hlkc⟩ (by dsimp only; omega) (.cons_cons _ (.cons_cons _ (.refl _))) (subT.cons Z (subT.cons Z (subT.cons Z (subT.cons Z (subT.cons Z (subT.cons Z (subT.cons Z (subT.cons Z (subT.cons Z (subT.cons Z (subT.cons Z (subT.cons Z (subT.cons Z (subT.cons Z (subT.cons Z subT.nil)))))))))))))))
   ·
    refine h_seq<|H<|o_cmp Z Z Z K<|o_nil<|h_seq<|h_condf Z (by simp <;> omega) ?_
    refine h_exit<|H<|o_add Z Z (by unfold in64; (try dsimp only); omega) K ?_
    refine G Z K<|o_nil<|back rfl ⟨ka + 1, hlka⟩ (by dsimp only; omega) (.cons _ (.cons_cons _ (.refl _))) (subT.cons Z (subT.cons Z (subT.cons Z (subT.cons Z (subT.cons Z (subT.cons Z (subT.cons Z (subT.cons Z (subT.cons Z (subT.cons Z (subT.cons Z subT.nil)))))))))))
 ·
  refine h_seq<|H<|o_cmp Z Z Z K<|o_nil<|h_seq<|h_condf Z (by simp <;> omega) ?_
  exact h_exit<|h_seq<|H<|G Z K<|S Z K<|o_nil<|h_ret<|ret1' Z Z

end Go.Proofs.YtnoicbajhlpndaaGreat
