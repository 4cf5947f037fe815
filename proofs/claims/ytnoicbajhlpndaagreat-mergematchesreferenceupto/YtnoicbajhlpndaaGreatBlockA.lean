/- The walks of package block: when a list of blocks is a map; find and contains with a function. -/
import Derived.Test.YtnoicbajhlpndaaGreatHeapC
namespace Go.Proofs.YtnoicbajhlpndaaGreat
open Go Go.RowKit Go.Shelf Hp
set_option maxRecDepth 10000
set_option maxHeartbeats 1000000
set_option linter.unusedVariables false
set_option linter.unusedSimpArgs false
attribute [local irreducible] WP WPs FnX IterX YdX RetP PanP Ch Back Join
/-- A block, as cells. -/
structure Blk where
  f : Int
  t : Int
  c : Int
  deriving DecidableEq
def encB (b : Blk) : List PV := [pI b.f, pI b.t, pI b.c]
def rangeOk (f t : Int) : Bool := decide (0 ≤ f ∧ f < t ∧ t ≤ 100000000)
def carOk (c : Int) : Bool := decide (0 ≤ c ∧ c ≤ 7)
def badB (l b : Blk) : Bool := !rangeOk b.f b.t || !carOk b.c || decide (b.f < l.t) || (decide (b.f = l.t) && decide (b.c = l.c))

theorem isRange_spec (f t : Int) : Fn1 Tryz.prog 125 [.agg [I f, I t]] (B (rangeOk f t)) := by
 refine fnE_intro (N := 18) Tryz.func125 rfl rfl rfl ?_
 intro X
 refine h_seq<|H<|o_box Z Z K fun x1 => S Z K<|o_nil<|h_seq<|H<|F Z Z K K<|O 0 Z Z Z Z K<|o_cmp Z Z Z K<|G Z K<|o_guard Z Z K (fun g3 => ?_) (fun g3 => ?_)
 ·
  have g3 : _ = true := g3
  refine F Z Z K K<|W Z Z g3 K<|O 0 Z Z Z Z K<|W Z Z g3 K<|F Z Z K K<|W Z Z g3 K<|O 0 Z Z Z Z K<|W Z Z g3 K<|o_cmp Z Z Z K<|o_pickt Z g3 rfl K<|G Z K<|o_guard Z Z K (fun g5 => ?_) (fun g5 => ?_)
  ·
   have g5 : _ = true := g5
   refine F Z Z K K<|W Z Z g5 K<|O 0 Z Z Z Z K<|W Z Z g5 K<|o_cmp Z Z Z K<|o_pickt Z g5 rfl K<|S Z K<|o_nil<|h_ret<|ret1' Z ?_
   (unfold rangeOk; (refine B_eq ?_; (try simp only [Bool.not_true, Bool.not_false, decide_eq_true_eq, decide_eq_false_iff_not] at *); (first | rfl | (rw [Bool.eq_iff_iff]; simp only [decide_eq_true_eq, Bool.false_eq_true, Bool.true_eq_false, Bool.and_eq_true, Bool.or_eq_true, Bool.not_eq_true', decide_eq_false_iff_not, false_iff, iff_false, true_iff, iff_true]; omega))))
  ·
   have g5 : _ = false := g5
   refine U Z Z g5 K<|U Z Z g5 K<|o_pickf Z g5 rfl K<|S Z K<|o_nil<|h_ret<|ret1' Z ?_
   (unfold rangeOk; (refine B_eq ?_; (try simp only [Bool.not_true, Bool.not_false, decide_eq_true_eq, decide_eq_false_iff_not] at *); (first | rfl | (rw [Bool.eq_iff_iff]; simp only [decide_eq_true_eq, Bool.false_eq_true, Bool.true_eq_false, Bool.and_eq_true, Bool.or_eq_true, Bool.not_eq_true', decide_eq_false_iff_not, false_iff, iff_false, true_iff, iff_true]; omega))))
 ·
  have g3 : _ = false := g3
  refine U Z Z g3 K<|U Z Z g3 K<|U Z Z g3 K<|U Z Z g3 K<|o_pickf Z g3 rfl K<|G Z K<|U Z Z Z K<|U Z Z Z K<|U Z Z Z K<|o_pickf Z Z Z K<|S Z K<|o_nil ?_
  refine h_ret<|ret1' Z ?_
  (unfold rangeOk; (refine B_eq ?_; (try simp only [Bool.not_true, Bool.not_false, decide_eq_true_eq, decide_eq_false_iff_not] at *); (first | rfl | (rw [Bool.eq_iff_iff]; simp only [decide_eq_true_eq, Bool.false_eq_true, Bool.true_eq_false, Bool.and_eq_true, Bool.or_eq_true, Bool.not_eq_true', decide_eq_false_iff_not, false_iff, iff_false, true_iff, iff_true]; omega))))

theorem bisCarrier_spec (c : Int) : Fn1 Tryz.prog 126 [I c] (B (carOk c)) := by
 refine fnE_intro (N := 9) Tryz.func126 rfl rfl rfl ?_
 intro X
 refine h_seq<|H<|S Z K<|o_nil<|h_seq<|H<|G Z K<|o_cmp Z Z Z K<|G Z K<|o_guard Z Z K (fun g8 => ?_) (fun g8 => ?_)
 ·
  have g8 : _ = true := g8
  refine G Z K<|W Z Z g8 K<|o_cmp Z Z Z K<|o_pickt Z g8 rfl K<|S Z K<|o_nil<|h_ret<|ret1' Z ?_
  (unfold carOk; (refine B_eq ?_; (try simp only [Bool.not_true, Bool.not_false, decide_eq_true_eq, decide_eq_false_iff_not] at *); (first | rfl | (rw [Bool.eq_iff_iff]; simp only [decide_eq_true_eq, Bool.false_eq_true, Bool.true_eq_false, Bool.and_eq_true, Bool.or_eq_true, Bool.not_eq_true', decide_eq_false_iff_not, false_iff, iff_false, true_iff, iff_true]; omega))))
 ·
  have g8 : _ = false := g8
  refine U Z Z g8 K<|o_pickf Z g8 rfl K<|S Z K<|o_nil<|h_ret<|ret1' Z ?_
  (unfold carOk; (refine B_eq ?_; (try simp only [Bool.not_true, Bool.not_false, decide_eq_true_eq, decide_eq_false_iff_not] at *); (first | rfl | (rw [Bool.eq_iff_iff]; simp only [decide_eq_true_eq, Bool.false_eq_true, Bool.true_eq_false, Bool.and_eq_true, Bool.or_eq_true, Bool.not_eq_true', decide_eq_false_iff_not, false_iff, iff_false, true_iff, iff_true]; omega))))

theorem bvalid1_spec (l b : Blk) (e : Nat) : Fc Tryz.prog 124 [.agg [I b.f, I b.t, I b.c], .ptr e 0] [(e, .box 116 [I l.f, I l.t, I l.c])] (fun r h' => r = B (badB l b) ∧ h' = [(e, .box 116 [I b.f, I b.t, I b.c])]) := by
  refine fnE_intro (N := 40) Tryz.func124 rfl rfl rfl ?_
  intro X
  refine h_seq<|H<|o_box Z Z K fun x10 => S Z K<|o_nil<|h_seq<|H<|O 1 Z Z Z Z K<|o_alloc K fun x11 => ?_
  refine o_store 0 Z Z Z Z Z Z<|o_nil<|h_seq<|H<|O 1 Z Z Z Z K ?_
  refine o_store 2 Z Z Z Z Z Z<|o_nil<|h_seq<|H<|F Z Z K K<|O 1 Z Z Z Z K<|o_call1 Z Z EntC.out K (isRange_spec _ _)<|o_not Z K<|G Z K<|o_guard Z Z K (fun g13 => ?_) (fun g13 => ?_)
  ·
    have g13 : _ = false := g13
    refine F Z Z K K<|W Z Z g13 K<|O 1 Z Z Z Z K<|W Z Z g13 K<|o_call1 Z Z EntC.out K (bisCarrier_spec _)<|W Z Z g13 K<|o_not Z K<|o_pickf Z g13 rfl K<|G Z K<|o_guard Z Z K (fun g15 => ?_) (fun g15 => ?_)
    ·
      have g15 : _ = false := g15
      refine F Z Z K K<|W Z Z g15 K<|F Z Z K K<|W Z Z g15 K<|O 1 Z Z Z Z K<|W Z Z g15 K<|F Z Z K K<|W Z Z g15 K<|F Z Z K K<|W Z Z g15 K<|O 0 Z Z Z Z K<|W Z Z g15 K ?_
      refine o_cmp Z Z Z K<|o_pickf Z g15 rfl K<|G Z K<|o_guard Z Z K (fun g17 => ?_) (fun g17 => ?_)
      ·
        have g17 : _ = false := g17
        refine O 1 Z Z Z Z K<|W Z Z g17 K<|F Z Z K K<|W Z Z g17 K<|F Z Z K K<|W Z Z g17 K<|O 0 Z Z Z Z K<|W Z Z g17 K<|F Z Z K K<|W Z Z g17 K<|F Z Z K K<|W Z Z g17 K ?_
        refine O 1 Z Z Z Z K<|W Z Z g17 K<|o_build Z Z K<|W Z Z g17 K<|F Z Z K K<|W Z Z g17 K<|O 0 Z Z Z Z K<|W Z Z g17 K<|o_build Z Z K<|W Z Z g17 K<|o_eqS Z Z Z Z K<|o_pickf Z g17 rfl K ?_
        refine S Z K<|o_nil<|h_ret<|retS1 [(e, .box 116 [I b.f, I b.t, I b.c])] rfl ?_ ⟨_, rfl, ?_, rfl⟩
        · exact .cons _ (.cons _ (.cons_cons _ (.refl _)))
        · refine B_eq ?_; unfold badB; (try simp_all [ceqs, ceq]); (try omega)
      ·
        have g17 : _ = true := g17
        refine U Z Z g17 K<|U Z Z g17 K<|U Z Z g17 K<|U Z Z g17 K<|U Z Z g17 K<|U Z Z g17 K<|U Z Z g17 K<|U Z Z g17 K<|U Z Z g17 K<|U Z Z g17 K<|U Z Z g17 K<|o_pickt Z g17 rfl K ?_
        refine S Z K<|o_nil<|h_ret<|retS1 [(e, .box 116 [I b.f, I b.t, I b.c])] rfl ?_ ⟨_, rfl, ?_, rfl⟩
        · exact .cons _ (.cons _ (.cons_cons _ (.refl _)))
        · refine B_eq ?_; unfold badB; (try simp_all [ceqs, ceq]); (try omega)
    ·
      have g15 : _ = true := g15
      refine U Z Z g15 K<|U Z Z g15 K<|U Z Z g15 K<|U Z Z g15 K<|U Z Z g15 K<|U Z Z g15 K<|o_pickt Z g15 rfl K<|G Z K<|U Z Z Z K<|U Z Z Z K<|U Z Z Z K<|U Z Z Z K ?_
      refine U Z Z Z K<|U Z Z Z K<|U Z Z Z K<|U Z Z Z K<|U Z Z Z K<|U Z Z Z K<|U Z Z Z K<|U Z Z Z K<|o_pickt Z Z Z K<|S Z K<|o_nil<|h_ret ?_
      refine retS1 [(e, .box 116 [I b.f, I b.t, I b.c])] rfl ?_ ⟨_, rfl, ?_, rfl⟩
      · exact .cons _ (.cons _ (.cons_cons _ (.refl _)))
      · refine B_eq ?_; unfold badB; (try simp_all [ceqs, ceq]); (try omega)
  ·
    have g13 : _ = true := g13
    refine U Z Z g13 K<|U Z Z g13 K<|U Z Z g13 K<|o_pickt Z g13 rfl K<|G Z K<|U Z Z Z K<|U Z Z Z K<|U Z Z Z K<|U Z Z Z K<|U Z Z Z K<|U Z Z Z K<|U Z Z Z K ?_
    refine o_pickt Z Z Z K<|G Z K<|U Z Z Z K<|U Z Z Z K<|U Z Z Z K<|U Z Z Z K<|U Z Z Z K<|U Z Z Z K<|U Z Z Z K<|U Z Z Z K<|U Z Z Z K<|U Z Z Z K ?_
    refine U Z Z Z K<|U Z Z Z K<|o_pickt Z Z Z K<|S Z K<|o_nil<|h_ret<|retS1 [(e, .box 116 [I b.f, I b.t, I b.c])] rfl ?_ ⟨_, rfl, ?_, rfl⟩
    · exact .cons _ (.cons _ (.cons_cons _ (.refl _)))
    · refine B_eq ?_; unfold badB; (try simp_all [ceqs, ceq]); (try omega)

end Go.Proofs.YtnoicbajhlpndaaGreat
/- Searches in slices with a function that may keep a state of its own. -/
namespace Go.Proofs.YtnoicbajhlpndaaGreat
open Go Go.RowKit Go.Shelf Hp
set_option maxRecDepth 10000
set_option maxHeartbeats 1000000
set_option linter.unusedVariables false
set_option linter.unusedSimpArgs false
attribute [local irreducible] WP WPs FnX IterX YdX RetP PanP Ch Back Join
theorem elt_map {α : Type} {enc : α → List PV} {l : List α} {k : Nat} (h : k < l.length) : (l.map enc)[(k : Int).toNat]? = some (enc l[k]) := by simp [h]

theorem blkIndex (l : List Blk) (hlen : l.length ≤ 1000000000) (fl : Bool) (g : FuncId) [hg : EntC Tryz.prog g] (caps : List AV) (J : Nat → AHeap) (p : Nat → Bool) (hp : ∀ k (hk : k < l.length), Fc Tryz.prog g ([.agg [I l[k].f, I l[k].t, I l[k].c]] ++ caps) (J k) (fun r h' => r = B (p k) ∧ h' = J (k + 1))) : Fc Tryz.prog 97 [V (l.map encB) fl, .fn g caps] (J 0) (fun r h' => r = I (idxOf p l.length) ∧ h' = J (cntOf p l.length)) := by
 refine fnE_intro (N := 19) Tryz.func97 rfl rfl rfl ?_
 intro X
 refine h_seq<|H<|S Z K<|o_nil<|h_seq<|h_seq<|H<|G Z K<|o_len Z K<|G Z K<|o_nil<|h_block ?_
 refine h_famS (ι := {k : Nat // k ≤ l.length ∧ ∀ j, j < k → p j = false}) (fun i => [(0, V (l.map encB) fl), (1, .fn g caps), (7, I ((l.map encB).length : Nat)), (8, I (i.1 : Nat))]) (fun i => J i.1) (fun i => l.length - i.1) ⟨0, Nat.zero_le _, fun j hj => absurd hj (Nat.not_lt_zero j)⟩ (.refl _) (subT.cons Z (subT.cons Z (subT.cons Z (subT.cons Z subT.nil)))) ?_
 rintro ⟨k, hk, hb⟩
 by_cases hlt : k < l.length
 ·
  refine h_seq<|H<|o_cmp Z Z Z K<|o_nil<|h_seq<|h_condt Z (by simp; omega) ?_
  refine h_skip<|h_seq<|h_block<|h_seq<|H<|G Z K<|S Z K<|o_nil<|h_seq<|H<|G Z K<|G Z K ?_
  refine G Z K<|o_idxv Z Z (by omega) (elt_map hlt) rfl K<|o_loadv Z Z K<|o_callA Z Z hg.out K (hp k hlt) fun v h' hr => ?_
  obtain ⟨rfl, rfl⟩ := hr
  refine o_nil<|h_cond Z (fun c3 => ?_) (fun c3 => ?_)
  ·
   refine h_seq<|H<|G Z K<|S Z K<|o_nil<|h_ret ?_
   obtain ⟨e1, e2⟩ := idx_some hlt c3 hb
   exact retK1 rfl ⟨_, rfl, by rw [e1], by rw [e2]⟩
  ·
   refine h_skip<|H<|o_add Z Z (by unfold in64; (try dsimp only); omega) K ?_
   refine G Z K<|o_nil<|back rfl ⟨k + 1, hlt, fun j hj => (by rcases Nat.lt_succ_iff_lt_or_eq.1 hj with h | h; exact hb j h; subst h; assumption)⟩ (by show l.length - (k + 1) < l.length - k; omega) (.refl _) (subT.cons Z (subT.cons Z (subT.cons Z (subT.cons Z subT.nil))))
 ·
  refine h_seq<|H<|o_cmp Z Z Z K<|o_nil<|h_seq<|h_condf Z (by simp; omega) ?_
  refine h_exit<|h_seq<|H<|S Z K<|o_nil<|h_ret ?_
  obtain rfl : k = l.length := by omega
  obtain ⟨e1, e2⟩ := idx_none hb
  exact retK1 rfl ⟨_, rfl, by rw [e1]; rfl, by rw [e2]⟩

theorem blkContains (l : List Blk) (hlen : l.length ≤ 1000000000) (fl : Bool) (g : FuncId) [hg : EntC Tryz.prog g] (caps : List AV) (J : Nat → AHeap) (p : Nat → Bool) (hp : ∀ k (hk : k < l.length), Fc Tryz.prog g ([.agg [I l[k].f, I l[k].t, I l[k].c]] ++ caps) (J k) (fun r h' => r = B (p k) ∧ h' = J (k + 1))) : Fc Tryz.prog 70 [V (l.map encB) fl, .fn g caps] (J 0) (fun r h' => r = B ((List.range l.length).any p) ∧ h' = J (cntOf p l.length)) := by
 refine fnE_intro (N := 9) Tryz.func70 rfl rfl rfl ?_
 intro X
 refine h_seq<|H<|S Z K<|o_nil<|h_seq<|H<|G Z K<|G Z K<|o_callA Z Z EntC.out K (blkIndex l hlen fl g caps J p hp) fun v h' hr => ?_
 obtain ⟨rfl, rfl⟩ := hr
 exact o_cmp Z Z Z K<|S Z K<|o_nil<|h_ret<|retK1 rfl ⟨_, rfl, B_eq idx_any, rfl⟩

end Go.Proofs.YtnoicbajhlpndaaGreat
/- The walks of package block: small functions, and who holds a number in what is left of a map. -/
namespace Go.Proofs.YtnoicbajhlpndaaGreat
open Go Go.RowKit Go.Shelf Hp
set_option maxRecDepth 10000
set_option maxHeartbeats 1000000
set_option linter.unusedVariables false
set_option linter.unusedSimpArgs false
attribute [local irreducible] WP WPs FnX IterX YdX RetP PanP Ch Back Join
def overM (x y : Int) : Int := if y = -1 then x else y
def onlyM (x y : Int) : Int := if y = -1 then -1 else x
def swapM (f t : Int) (x y : Int) : Int := if x = f then t else x
/-- What is left of a map from a number on. -/
def dw (n : Int) : List Blk → List Blk
  | [] => []
  | b :: r => if b.t ≤ n then dw n r else b :: r
def atM (n : Int) (l : List Blk) : Int × Int := match dw n l with
  | [] => (-1, 100000000)
  | b :: _ => if n < b.f then (-1, b.f) else (b.c, b.t)
def atFl (n : Int) (l : List Blk) (fl : Bool) : Bool := match dw n l with
  | [] => true
  | _ :: _ => fl
theorem encB_len {l : List Blk} : ∀ e ∈ l.map encB, e.length = 3 := by simp [encB]

theorem on_spec (f t c : Int) : Fn1 Tryz.prog 219 [.agg [I f, I t], I c] (V ([⟨f, t, c⟩].map encB) true) := by
 refine fnE_intro (N := 9) Tryz.func219 rfl rfl rfl ?_
 intro X
 refine h_seq<|H<|o_box Z Z K fun x1 => S Z K<|o_nil<|h_seq<|H<|O 0 Z Z Z Z K<|G Z K<|o_build Z Z K<|o_buildSlicep Z (by rfl) (by rfl) (by rfl) (by rfl) K ?_
 refine S Z K<|o_nil<|h_ret<|ret1' Z ?_
 rfl

theorem over_spec (x y : Int) : Fn1 Tryz.prog 221 [I x, I y] (I (overM x y)) := by
 refine fnE_intro (N := 9) Tryz.func221 rfl rfl rfl ?_
 intro X
 refine h_seq<|H<|S Z K<|o_nil<|h_seq<|h_seq<|H<|G Z K<|o_cmp Z Z Z K<|o_nil<|h_cond Z (fun c3 => ?_) (fun c3 => ?_)
 ·
  refine h_seq<|H<|G Z K<|S Z K<|o_nil<|h_ret<|ret1' Z ?_
  (refine I_eq ?_; unfold overM; simp_all)
 ·
  refine h_skip<|h_seq<|H<|G Z K<|S Z K<|o_nil<|h_ret<|ret1' Z ?_
  (refine I_eq ?_; unfold overM; simp_all)

theorem only1_spec (x y : Int) : Fn1 Tryz.prog 220 [I x, I y] (I (onlyM x y)) := by
 refine fnE_intro (N := 8) Tryz.func220 rfl rfl rfl ?_
 intro X
 refine h_seq<|H<|S Z K<|o_nil<|h_seq<|h_seq<|H<|G Z K<|o_cmp Z Z Z K<|o_nil<|h_cond Z (fun c5 => ?_) (fun c5 => ?_)
 ·
  refine h_seq<|H<|S Z K<|o_nil<|h_ret<|ret1' Z ?_
  (refine I_eq ?_; unfold onlyM; simp_all)
 ·
  refine h_skip<|h_seq<|H<|G Z K<|S Z K<|o_nil<|h_ret<|ret1' Z ?_
  (refine I_eq ?_; unfold onlyM; simp_all)

theorem swap1_spec (f t x y : Int) (e2 e3 : Nat) : Fc Tryz.prog 218 [I x, I y, .ptr e2 0, .ptr e3 0] [(e2, .box 3 [I f]), (e3, .box 3 [I t])] (fun r h' => r = I (swapM f t x y) ∧ h' = [(e2, .box 3 [I f]), (e3, .box 3 [I t])]) := by
 refine fnE_intro (N := 12) Tryz.func218 rfl rfl rfl ?_
 intro X
 refine h_seq<|H<|S Z K<|o_nil<|h_seq<|h_seq<|H<|G Z K<|O 0 Z Z Z Z K<|o_cmp Z Z Z K<|o_nil<|h_cond Z (fun c7 => ?_) (fun c7 => ?_)
 ·
  refine h_seq<|H<|O 1 Z Z Z Z K<|S Z K<|o_nil<|h_ret<|retS1 _ rfl (.refl _) ⟨_, rfl, ?_, rfl⟩
  (refine I_eq ?_; unfold swapM; simp_all)
 ·
  refine h_skip<|h_seq<|H<|G Z K<|S Z K<|o_nil<|h_ret<|retS1 _ rfl (.refl _) ⟨_, rfl, ?_, rfl⟩
  (refine I_eq ?_; unfold swapM; simp_all)

theorem at_spec (l : List Blk) (fl : Bool) (n : Int) : Fn1 Tryz.prog 229 [V (l.map encB) fl, I n] (.tup [V ((dw n l).map encB) (atFl n l fl), I (atM n l).1, I (atM n l).2]) := by
  refine fnE_intro (N := 49) Tryz.func229 rfl rfl rfl ?_
  intro X
  refine h_seq<|H<|S Z K<|S Z K<|S Z K<|o_nil<|h_seq<|h_block<|h_famS (ι := {m : List Blk // dw n m = dw n l}) (fun i => [(0, V (i.1.map encB) fl), (1, I n)]) (fun i => []) (fun i => i.1.length) ⟨l, rfl⟩ (.refl _) (subT.cons Z (subT.cons Z subT.nil)) ?_
  rintro ⟨m, hm⟩
  cases m with
  | nil =>
    refine h_seq<|h_seq<|H<|G Z K<|o_len Z K<|o_cmp Z Z Z K<|G Z K<|U Z Z (by simp <;> omega) K ?_
    refine U Z Z (by simp <;> omega) K ?_
    refine U Z Z (by simp <;> omega) K ?_
    refine U Z Z (by simp <;> omega) K ?_
    refine U Z Z (by simp <;> omega) K ?_
    refine U Z Z (by simp <;> omega) K ?_
    refine U Z Z (by simp <;> omega) K ?_
    refine o_pickf Z (by simp <;> omega) rfl K ?_
    refine o_nil<|h_condf Z Z<|h_exit<|h_seq<|h_block<|h_seq<|H<|G Z K<|o_len Z K<|o_cmp Z Z Z K<|S Z K<|o_nil ?_
    refine h_condt Z (by simp <;> omega) ?_
    refine h_seq<|H<|S Z K<|S Z K<|S Z K<|o_nil<|h_ret<|ret3' Z Z Z ?_
    (try simp only [decide_eq_true_eq, decide_eq_false_iff_not] at *)
    have e : dw n l = [] := by rw [← hm]; rfl
    simp only [atM, atFl, e]; rfl
  | cons b r =>
    refine h_seq<|h_seq<|H<|G Z K<|o_len Z K<|o_cmp Z Z Z K<|G Z K<|W Z Z (by simp <;> omega) K ?_
    refine G Z K<|W Z Z (by simp <;> omega) K ?_
    refine o_idxv Z Z (by omega) rfl rfl K<|W Z Z (by simp <;> omega) K ?_
    refine o_faddrv Z Z K rfl K<|W Z Z (by simp <;> omega) K ?_
    refine o_faddrv Z Z K rfl K<|W Z Z (by simp <;> omega) K ?_
    refine o_loadv Z Z K<|W Z Z (by simp <;> omega) K ?_
    refine G Z K<|W Z Z (by simp <;> omega) K ?_
    refine o_cmp Z Z Z K<|o_pickt Z (by simp <;> omega) rfl K ?_
    refine o_nil<|h_cond Z (fun c12 => ?_) (fun c12 => ?_)
    ·
      refine h_skip<|h_block<|H<|G Z K<|o_tail Z Z (by omega) (by simp) encB_len K ?_
      refine S Z K<|o_nil<|back rfl ⟨r, (by rw [← hm]; simp_all [dw])⟩ (by simp) (.refl _) (subT.cons Z (subT.cons Z subT.nil))
    ·
      refine h_exit<|h_seq<|h_block<|h_seq<|H<|G Z K<|o_len Z K<|o_cmp Z Z Z K<|S Z K<|o_nil<|h_condf Z (by simp <;> omega) ?_
      refine h_seq<|H<|G Z K<|G Z K<|o_idxv Z Z (by omega) rfl rfl K<|o_faddrv Z Z K rfl K<|o_faddrv Z Z K rfl K<|o_loadv Z Z K<|o_cmp Z Z Z K<|S Z K<|o_nil<|h_cond Z (fun c15 => ?_) (fun c15 => ?_)
      ·
        refine h_seq<|h_draw _ (List.nil_sublist _) [(0, .flo), (1, .flo), (2, .flo), (3, .flo), (4, .flo), (5, .val), (6, .flo), (7, .flo), (8, .flo)] mixed (by kernel_rfl)<|C Z Z (fun jj => G Z K jj)<|C Z Z (fun jj => G Z K jj)<|C Z Z (fun jj => o_idxv Z Z (by omega) rfl rfl K jj)<|C Z Z (fun jj => o_faddrv Z Z K rfl K jj)<|C Z Z (fun jj => o_faddrv Z Z K rfl K jj)<|c_val Z Z (fun _ _ _ _ jj => o_loadv Z Z K jj)<|C Z Z (fun jj => S Z K jj)<|C Z Z (fun jj => S Z K jj)<|C Z Z (fun jj => S Z K jj)<|c_nil ?_
        refine h_ret<|ret3' Z Z Z ?_
        (try simp only [decide_eq_true_eq, decide_eq_false_iff_not] at *)
        have e : dw n l = b :: r := by rw [← hm]; simp only [dw]; rw [if_neg (by omega)]
        simp only [atM, atFl, e]
        first | (rw [if_pos (by omega)] <;> rfl) | (rw [if_neg (by omega)] <;> rfl)
      ·
        refine h_skip<|h_seq<|h_draw _ (List.nil_sublist _) [(0, .flo), (1, .flo), (2, .flo), (3, .flo), (4, .val), (5, .flo), (6, .flo), (7, .flo), (8, .flo), (9, .val), (10, .flo), (11, .flo), (12, .flo)] mixed (by kernel_rfl)<|C Z Z (fun jj => G Z K jj)<|C Z Z (fun jj => G Z K jj)<|C Z Z (fun jj => o_idxv Z Z (by omega) rfl rfl K jj)<|C Z Z (fun jj => o_faddrv Z Z K rfl K jj)<|c_val Z Z (fun _ _ _ _ jj => o_loadv Z Z K jj)<|C Z Z (fun jj => G Z K jj)<|C Z Z (fun jj => o_idxv Z Z (by omega) rfl rfl K jj)<|C Z Z (fun jj => o_faddrv Z Z K rfl K jj)<|C Z Z (fun jj => o_faddrv Z Z K rfl K jj) ?_
        refine c_val Z Z (fun _ _ _ _ jj => o_loadv Z Z K jj)<|C Z Z (fun jj => S Z K jj)<|C Z Z (fun jj => S Z K jj)<|C Z Z (fun jj => S Z K jj)<|c_nil<|h_ret<|ret3' Z Z Z ?_
        (try simp only [decide_eq_true_eq, decide_eq_false_iff_not] at *)
        have e : dw n l = b :: r := by rw [← hm]; simp only [dw]; rw [if_neg (by omega)]
        simp only [atM, atFl, e]
        first | (rw [if_pos (by omega)] <;> rfl) | (rw [if_neg (by omega)] <;> rfl)

end Go.Proofs.YtnoicbajhlpndaaGreat
/- The walks of package block: whether a list is a map; the pieces of two maps. -/
namespace Go.Proofs.YtnoicbajhlpndaaGreat
open Go Go.RowKit Go.Shelf Hp
set_option maxRecDepth 10000
set_option maxHeartbeats 1000000
set_option linter.unusedVariables false
set_option linter.unusedSimpArgs false
attribute [local irreducible] WP WPs FnX IterX YdX RetP PanP Ch Back Join
abbrev dB : Blk := ⟨0, 0, 0⟩
def lastB (l : List Blk) : Nat → Blk
  | 0 => ⟨0, 0, -1⟩
  | k + 1 => l.getD k dB
def badAt (l : List Blk) (k : Nat) : Bool := badB (lastB l k) (l.getD k dB)
/-- Whether a list is a map. -/
def validB (l : List Blk) : Bool := decide (l.length ≤ 40) && !(List.range l.length).any (badAt l)
theorem valid_hp (l : List Blk) (e : Nat) : ∀ k (hk : k < l.length), Fc Tryz.prog 124 ([.agg [I l[k].f, I l[k].t, I l[k].c]] ++ [.ptr e 0]) [(e, .box 116 [I (lastB l k).f, I (lastB l k).t, I (lastB l k).c])]
    (fun r h' => r = B (badAt l k) ∧ h' = [(e, .box 116 [I (lastB l (k + 1)).f, I (lastB l (k + 1)).t, I (lastB l (k + 1)).c])]) := fun k hk => by
  have e1 : l.getD k dB = l[k] := by simp [hk]
  have := bvalid1_spec (lastB l k) l[k] e
  simp only [lastB, badAt, e1] at this ⊢
  exact this

theorem bvalid_spec (l : List Blk) (fl : Bool) : Fn1 Tryz.prog 69 [V (l.map encB) fl] (B (validB l)) := by
 refine fnE_intro (N := 16) Tryz.func69 rfl rfl rfl ?_
 intro X
 refine h_seq<|H<|S Z K<|o_nil<|h_seq<|H<|o_build Z Z K<|o_alloc K fun x1 => ?_
 refine o_store 0 Z Z Z Z Z Z<|o_nil<|h_seq<|H<|o_makeFunc Z K<|S Z K<|o_nil<|h_seq<|H<|G Z K<|o_len Z K<|o_cmp Z Z Z K ?_
 refine G Z K<|o_guard Z Z K (fun g3 => ?_) (fun g3 => ?_)
 ·
  have g3 : _ = true := g3
  refine G Z K<|W Z Z g3 K<|G Z K<|W Z Z g3 K<|o_callA Z Z EntC.out K (blkContains l (by have := g3; simp at this; omega) fl 124 [.ptr x1 0] (fun k => [(x1, .box 116 [I (lastB l k).f, I (lastB l k).t, I (lastB l k).c])]) (badAt l) (valid_hp l x1)) fun v h' hr => ?_
  obtain ⟨rfl, rfl⟩ := hr
  refine W Z Z g3 K<|o_not Z K<|o_pickt Z g3 rfl K<|S Z K<|o_nil<|h_ret<|ret1' Z (B_eq ?_)
  unfold validB; (try simp_all); (try (intros; omega))
 ·
  have g3 : _ = false := g3
  refine U Z Z g3 K<|U Z Z g3 K<|U Z Z g3 K<|o_pickf Z g3 rfl K<|S Z K<|o_nil<|h_ret<|ret1' Z (B_eq ?_)
  unfold validB; (try simp_all); (try (intros; omega))


/-! ### the pieces of two maps -/
theorem dw_dw {n m : Int} (h : n ≤ m) : ∀ l : List Blk, dw m (dw n l) = dw m l
  | [] => rfl
  | b :: r => by
    simp only [dw]
    split
    · rw [dw_dw h r]; rw [if_pos (by omega)]
    · rfl
theorem atM_congr {n : Int} {l l' : List Blk} (h : dw n l = dw n l') : atM n l = atM n l' := by simp only [atM, h]
theorem dw_head {n : Int} : ∀ {l : List Blk} {b : Blk} {r : List Blk}, dw n l = b :: r → n < b.t
  | x :: l, b, r, h => by
    simp only [dw] at h
    split at h
    · exact dw_head h
    · cases h; omega
theorem atM_gt {n : Int} (hn : n ≤ 99999999) (l : List Blk) : n < (atM n l).2 := by
  unfold atM
  split
  · simp; omega
  · rename_i b r e
    have := dw_head e
    split <;> simp <;> omega
abbrev nextM (n : Int) (a b : List Blk) : Int := min (atM n a).2 (atM n b).2
def pcs : Nat → Int → List Blk → List Blk → List (Int × Int × Int × Int)
  | 0, _, _, _ => []
  | k + 1, n, a, b => if n ≤ 99999999 then (n, nextM n a b, (atM n a).1, (atM n b).1) :: pcs k (nextM n a b) a b else []
def encP (p : Int × Int × Int × Int) : List AV := [.agg [I p.1, I p.2.1], .agg [I p.2.2.1, I p.2.2.2]]
/-- The pieces of two maps. -/
def piecesM (a b : List Blk) : List (Int × Int × Int × Int) := pcs 100000000 0 a b
structure PcI (a b : List Blk) (J : Nat → AHeap → Prop) where
  n : Int
  i : Nat
  fa : Bool
  fb : Bool
  la : List Blk
  lb : List Blk
  hb : AHeap
  hla : ∀ m, n ≤ m → dw m la = dw m a
  hlb : ∀ m, n ≤ m → dw m lb = dw m b
  hes : ∃ k, (100000000 - n).toNat ≤ k ∧ pcs k n a b = (piecesM a b).drop i
  hi : i ≤ (piecesM a b).length
  hJ : J i hb
theorem PcI.at {a b : List Blk} {J : Nat → AHeap → Prop} (s : PcI a b J) : atM s.n s.la = atM s.n a ∧ atM s.n s.lb = atM s.n b := ⟨atM_congr (s.hla _ (Int.le_refl _)), atM_congr (s.hlb _ (Int.le_refl _))⟩
theorem PcI.step {a b : List Blk} {J : Nat → AHeap → Prop} (s : PcI a b J) (hn : s.n ≤ 99999999) :
    ∃ k, (100000000 - s.n).toNat ≤ k + 1 ∧ (piecesM a b).drop s.i = (s.n, nextM s.n s.la s.lb, (atM s.n s.la).1, (atM s.n s.lb).1) :: pcs k (nextM s.n s.la s.lb) a b := by
  obtain ⟨k, h1, h2⟩ := s.hes
  rw [← h2]
  cases k with
  | zero => omega
  | succ k =>
    refine ⟨k, h1, ?_⟩
    simp only [nextM, s.at.1, s.at.2]
    simp only [pcs, if_pos hn]
theorem PcI.elt {a b : List Blk} {J : Nat → AHeap → Prop} (s : PcI a b J) (hn : s.n ≤ 99999999) :
    ((piecesM a b).map encP)[s.i]? = some [.agg [I s.n, I (min (atM s.n s.la).2 (atM s.n s.lb).2)], .agg [I (atM s.n s.la).1, I (atM s.n s.lb).1]] := by
  obtain ⟨k, h1, h2⟩ := s.step hn
  have : (piecesM a b)[s.i]? = some (s.n, nextM s.n s.la s.lb, (atM s.n s.la).1, (atM s.n s.lb).1) := by
    have := List.getElem?_drop (xs := piecesM a b) (i := s.i) (j := 0)
    rw [h2] at this; simpa using this.symm
  simp [this, encP]
def PcI.next {a b : List Blk} {J : Nat → AHeap → Prop} (s : PcI a b J) (hn : s.n ≤ 99999999) (h' : AHeap) (hJ : J (s.i + 1) h') : PcI a b J where
  n := min (atM s.n s.la).2 (atM s.n s.lb).2
  i := s.i + 1
  fa := atFl s.n s.la s.fa
  fb := atFl s.n s.lb s.fb
  la := dw s.n s.la
  lb := dw s.n s.lb
  hb := h'
  hla := fun m hm => by
    have := atM_gt hn s.la; have := atM_gt hn s.lb
    rw [dw_dw (by omega), s.hla m (by omega)]
  hlb := fun m hm => by
    have := atM_gt hn s.la; have := atM_gt hn s.lb
    rw [dw_dw (by omega), s.hlb m (by omega)]
  hes := by
    obtain ⟨k, h1, h2⟩ := s.step hn
    have g1 := atM_gt hn s.la; have g2 := atM_gt hn s.lb
    refine ⟨k, by omega, ?_⟩
    have := congrArg List.tail h2
    simp only [List.tail_cons, List.tail_drop] at this
    exact this.symm
  hi := by
    obtain ⟨k, h1, h2⟩ := s.step hn
    have := congrArg List.length h2
    simp at this; omega
  hJ := hJ
theorem PcI.less {a b : List Blk} {J : Nat → AHeap → Prop} (s : PcI a b J) (hn : s.n ≤ 99999999) (h' : AHeap) (hJ : J (s.i + 1) h') : (100000000 - (s.next hn h' hJ).n).toNat < (100000000 - s.n).toNat := by
  have g1 := atM_gt hn s.la; have g2 := atM_gt hn s.lb
  simp only [PcI.next]; omega
theorem PcI.done {a b : List Blk} {J : Nat → AHeap → Prop} (s : PcI a b J) (hn : ¬ s.n ≤ 99999999) : s.i = ((piecesM a b).map encP).length := by
  obtain ⟨k, h1, h2⟩ := s.hes
  have h3 : pcs k s.n a b = [] := by cases k <;> simp [pcs, hn]
  rw [h3] at h2
  have := congrArg List.length h2
  have := s.hi
  simp at *; omega
def PcI.init {a b : List Blk} {J : Nat → AHeap → Prop} (fa fb : Bool) (hB : AHeap) (hJ : J 0 hB) : PcI a b J := ⟨0, 0, fa, fb, a, b, hB, fun _ _ => rfl, fun _ _ => rfl, ⟨100000000, by decide, rfl⟩, Nat.zero_le _, hJ⟩

theorem pieces_spec (a b : List Blk) (fa fb : Bool) : Fc Tryz.prog 227 [V (a.map encB) fa, V (b.map encB) fb] [] (fun r h' => ∃ e5 e2 e3, r = .fn 230 [.ptr e5 0, .ptr e2 0, .ptr e3 0] ∧ h' = [(e5, .box 290 [.fn 229 []]), (e3, .box 29 [V (b.map encB) fb]), (e2, .box 29 [V (a.map encB) fa])]) := by
 refine fnE_intro (N := 7) Tryz.func227 rfl rfl rfl ?_
 intro X
 refine h_seq<|H<|o_box Z Z K fun x5 => o_box Z Z K fun x6 => S Z K<|o_nil<|h_seq<|H<|o_alloc K fun x7 => ?_
 refine o_store 0 Z Z Z Z Z Z<|o_nil<|h_seq<|H<|o_makeFunc Z K<|S Z K<|o_nil<|h_ret<|retS1 _ rfl (.refl _) ⟨_, rfl, _, _, _, rfl, rfl⟩

theorem pieces2_spec (a b : List Blk) (fa fb : Bool) (e5 e2 e3 : Nat) (X : Ctx) : IterX Tryz.prog X 230 [.ptr e5 0, .ptr e2 0, .ptr e3 0] [(e5, .box 290 [.fn 229 []]), (e3, .box 29 [V (b.map encB) fb]), (e2, .box 29 [V (a.map encB) fa])] ((piecesM a b).map encP) := by
 refine iterX_intro fun l J Jx hB hy hJ => fnX_intro (N := 40) Tryz.func230 rfl rfl rfl ?_
 skip
 refine h_seq<|H<|S Z K<|o_nil<|h_block<|h_famS (ι := PcI a b J) (fun i => [(0, .yl l), (1, .ptr e5 0), (2, .ptr e2 0), (3, .ptr e3 0), (5, I i.n)]) (fun i => (e5, .box 290 [.fn 229 []]) :: (e3, .box 29 [V (i.lb.map encB) i.fb]) :: (e2, .box 29 [V (i.la.map encB) i.fa]) :: i.hb) (fun i => (100000000 - i.n).toNat) (PcI.init fa fb hB hJ) (.cons_cons _ (.cons_cons _ (.cons_cons _ (.refl _)))) (subT.cons Z (subT.cons Z (subT.cons Z (subT.cons Z (subT.cons Z subT.nil))))) ?_
 rintro s
 refine h_seq<|h_seq<|H<|G Z K<|o_cmp Z Z Z K<|o_nil<|h_cond Z (fun c9 => ?_) (fun c9 => ?_)
 ·
  refine h_skip<|h_block<|h_seq<|H<|o_alloc K fun x10 => o_nil<|h_seq<|H<|S Z K<|S Z K<|o_nil<|h_seq ?_
  refine H<|O 1 Z Z Z Z K<|O 3 Z Z Z Z K<|G Z K<|o_call1 Z Z EntC.out K (at_spec _ _ _)<|G Z K<|o_extract Z Z K<|o_extract Z Z K<|o_extract Z Z K ?_
  refine o_store 3 Z Z Z Z Z Z<|o_idxa Z Z K K K ?_
  refine o_store 0 Z Z Z Z Z Z<|S Z K<|o_nil<|h_seq<|H<|O 1 Z Z Z Z K<|O 2 Z Z Z Z K<|G Z K<|o_call1 Z Z EntC.out K (at_spec _ _ _)<|G Z K<|o_extract Z Z K<|o_extract Z Z K ?_
  refine o_extract Z Z K ?_
  refine o_store 2 Z Z Z Z Z Z<|o_idxa Z Z K K K ?_
  refine o_store 0 Z Z Z Z Z Z<|S Z K<|o_nil<|h_seq<|H<|G Z K<|G Z K<|o_min Z Z K<|S Z K<|o_nil<|h_seq<|h_seq ?_
  refine H<|G Z K<|G Z K<|G Z K<|o_build Z Z K<|O 0 Z Z Z Z K ?_
  have hn : s.n ≤ 99999999 := by have := c9; simpa using this
  refine o_yieldR (h2 := [_, _, _, _]) rfl rfl rfl K (fun Y' hY => hy Y' hY s.i _ s.hb (s.elt hn) s.hJ) fun yb h' hr => ?_
  rcases hr with ⟨rfl, hJ'⟩ | ⟨rfl, hJ'⟩
  ·
   refine o_not Z K<|o_nil<|h_condf Z Z<|h_skip<|H<|G Z K<|S Z K<|o_nil<|back rfl (s.next hn h' hJ') (s.less hn h' hJ') (.cons _ (.cons_cons _ (.cons_cons _ (.cons_cons _ (.refl _))))) (subT.cons Z (subT.cons Z (subT.cons Z (subT.cons Z (subT.cons Z subT.nil)))))
  ·
   refine o_not Z K<|o_nil<|h_condt Z Z<|h_ret<|retS0 h' (.cons _ (.cons _ (.cons _ (.cons _ (.refl _))))) ⟨rfl, .inr hJ'⟩
 ·
  refine h_exit<|retS0 s.hb (.cons _ (.cons _ (.cons _ (.refl _)))) ⟨rfl, .inl ?_⟩
  rw [← s.done (by have := c9; simpa using this)]; exact s.hJ

end Go.Proofs.YtnoicbajhlpndaaGreat
/- The walk of block.combine. -/
namespace Go.Proofs.YtnoicbajhlpndaaGreat
open Go Go.RowKit Go.Shelf Hp
set_option maxRecDepth 10000
set_option maxHeartbeats 1000000
set_option linter.unusedVariables false
set_option linter.unusedSimpArgs false
attribute [local irreducible] WP WPs FnX IterX YdX RetP PanP Ch Back Join
/-- One more piece of a map. -/
def addP (hol : Int → Int → Int) (out : List Blk) (p : Int × Int × Int × Int) : List Blk :=
  if hol p.2.2.1 p.2.2.2 = -1 then out else
  match out.getLast? with
  | none => [⟨p.1, p.2.1, hol p.2.2.1 p.2.2.2⟩]
  | some z => if z.t = p.1 ∧ z.c = hol p.2.2.1 p.2.2.2 then out.dropLast ++ [⟨z.f, p.2.1, z.c⟩] else out ++ [⟨p.1, p.2.1, hol p.2.2.1 p.2.2.2⟩]
def outM (a b : List Blk) (hol : Int → Int → Int) (i : Nat) : List Blk := ((piecesM a b).take i).foldl (addP hol) []
def combOut (a b : List Blk) (hol : Int → Int → Int) : List Blk := (piecesM a b).foldl (addP hol) []
/-- What combine returns. -/
def combM (a b : List Blk) (hol : Int → Int → Int) : List Blk × Int := if 40 < (combOut a b hol).length then ([], 130) else (combOut a b hol, 0)
def encR (p : List Blk × Int) : AV := .tup [V (p.1.map encB) p.1.isEmpty, I p.2]
theorem outM_succ {a b : List Blk} {hol : Int → Int → Int} {i : Nat} {p : Int × Int × Int × Int} (h : (piecesM a b)[i]? = some p) : outM a b hol (i + 1) = addP hol (outM a b hol i) p := by
  unfold outM
  rw [List.take_add_one, h]
  simp [List.foldl_append]
theorem addP_len (hol : Int → Int → Int) (out : List Blk) (p : Int × Int × Int × Int) : (addP hol out p).length ≤ out.length + 1 := by
  unfold addP
  split
  · omega
  · split
    · simp
    · rename_i z hz
      have : out ≠ [] := by intro e; subst e; simp at hz
      have := List.length_pos_iff.2 this
      split <;> simp <;> omega
theorem foldP_len (hol : Int → Int → Int) : ∀ (l : List (Int × Int × Int × Int)) (out : List Blk), (l.foldl (addP hol) out).length ≤ out.length + l.length
  | [], out => by simp
  | p :: l, out => by
    have h1 := foldP_len hol l (addP hol out p)
    have h2 := addP_len hol out p
    simp only [List.foldl_cons, List.length_cons]; omega
theorem pcs_len : ∀ (k : Nat) (n : Int) (a b : List Blk), (pcs k n a b).length ≤ k
  | 0, _, _, _ => by simp [pcs]
  | k + 1, n, a, b => by
    simp only [pcs]; split
    · have := pcs_len k (nextM n a b) a b; simp; omega
    · simp
theorem outM_len (a b : List Blk) (hol : Int → Int → Int) (i : Nat) : (outM a b hol i).length ≤ 100000000 := by
  have h1 := foldP_len hol ((piecesM a b).take i) []
  have h2 := pcs_len 100000000 0 a b
  unfold outM piecesM at *
  simp at h1; omega
theorem outM_all (a b : List Blk) (hol : Int → Int → Int) : outM a b hol ((piecesM a b).map encP).length = combOut a b hol := by simp [outM, combOut]
theorem lastE {l : List Blk} (hne : l ≠ []) : (l.map encB)[0 + ((l.length : Int) - 1).toNat]? = some (encB (l.getLast hne)) := by
  have := List.length_pos_iff.2 hne
  have e : ((l.length : Int) - 1).toNat = l.length - 1 := by omega
  rw [Nat.zero_add, e, List.getElem?_map, List.getLast_eq_getElem, List.getElem?_eq_getElem (by omega)]; rfl
inductive CombI (a b : List Blk) (hol : Int → Int → Int) (x8 : Nat) (tl : AHeap) : Nat → AHeap → Prop
  | nil (i : Nat) (h1 : AHeap) (ho : outM a b hol i = []) (hs : ((x8, OB.box 29 [V [] true]) :: tl).Sublist h1) : CombI a b hol x8 tl i h1
  | some (i : Nat) (h1 : AHeap) (ob c' : Nat) (es : List (List PV)) (len : Nat) (he : es = (outM a b hol i).map encB) (hl : len = (outM a b hol i).length) (hne : outM a b hol i ≠ []) (hc : len ≤ c')
      (hs : ((ob, OB.arr 116 3 es c') :: (x8, OB.box 29 [.os ob 3 0 len c']) :: tl).Sublist h1) : CombI a b hol x8 tl i h1
theorem es_get {l : List (Int × Int × Int × Int)} {i : Nat} {args : List AV} (h : (l.map encP)[i]? = some args) : ∃ n t x y, l[i]? = some (n, t, x, y) ∧ args = encP (n, t, x, y) := by
  rw [List.getElem?_map] at h
  cases hp : l[i]? with
  | none => rw [hp] at h; cases h
  | some p => rw [hp] at h; cases h; exact ⟨p.1, p.2.1, p.2.2.1, p.2.2.2, rfl, rfl⟩
theorem out_keep {a b : List Blk} {hol : Int → Int → Int} {i : Nat} {n t x y : Int} (h : (piecesM a b)[i]? = some (n, t, x, y)) (hk : hol x y = -1) : outM a b hol (i + 1) = outM a b hol i := by
  rw [outM_succ h]; simp [addP, hk]
theorem out_first {a b : List Blk} {hol : Int → Int → Int} {i : Nat} {n t x y : Int} (h : (piecesM a b)[i]? = some (n, t, x, y)) (hk : ¬ hol x y = -1) (ho : outM a b hol i = []) : outM a b hol (i + 1) = [⟨n, t, hol x y⟩] := by
  rw [outM_succ h]; simp [addP, hk, ho]
theorem out_more {a b : List Blk} {hol : Int → Int → Int} {i : Nat} {n t x y : Int} (h : (piecesM a b)[i]? = some (n, t, x, y)) (hk : ¬ hol x y = -1) (hne : outM a b hol i ≠ []) (hd : ¬ (((outM a b hol i).getLast hne).t = n ∧ ((outM a b hol i).getLast hne).c = hol x y)) :
    outM a b hol (i + 1) = outM a b hol i ++ [⟨n, t, hol x y⟩] := by
  rw [outM_succ h]; simp only [addP, List.getLast?_eq_some_getLast hne, if_neg hk, if_neg hd]
theorem out_long {a b : List Blk} {hol : Int → Int → Int} {i : Nat} {n t x y : Int} (h : (piecesM a b)[i]? = some (n, t, x, y)) (hk : ¬ hol x y = -1) (hne : outM a b hol i ≠ []) (hd : ((outM a b hol i).getLast hne).t = n ∧ ((outM a b hol i).getLast hne).c = hol x y) :
    outM a b hol (i + 1) = (outM a b hol i).dropLast ++ [⟨((outM a b hol i).getLast hne).f, t, ((outM a b hol i).getLast hne).c⟩] := by
  rw [outM_succ h]; simp only [addP, List.getLast?_eq_some_getLast hne, if_neg hk, if_pos hd]
theorem set_last {l : List Blk} (hne : l ≠ []) (z : Blk) : (l.map encB).set (0 + ((l.length : Int) - 1).toNat) (encB z) = (l.dropLast ++ [z]).map encB := by
  have := List.length_pos_iff.2 hne
  have e : ((l.length : Int) - 1).toNat = l.length - 1 := by omega
  rw [Nat.zero_add, e]
  conv => lhs; rw [← List.dropLast_concat_getLast hne]
  simp [List.set_append]

theorem combine_spec (a b : List Blk) (fa fb : Bool) (g : FuncId) [hg : EntC Tryz.prog g] (caps : List AV) (hH : AHeap) (hol : Int → Int → Int) (hh : ∀ x y, Fc Tryz.prog g ([I x, I y] ++ caps) hH (fun r h' => r = I (hol x y) ∧ h' = hH)) : Fc Tryz.prog 217 [V (a.map encB) fa, V (b.map encB) fb, .fn g caps] hH (fun r h' => r = encR (combM a b hol) ∧ h' = []) := by
  refine fnE_intro (N := 70) Tryz.func217 rfl rfl rfl ?_
  intro X
  refine h_seq<|H<|o_box Z Z K fun x1 => S Z K<|S Z K<|o_nil<|h_seq<|H<|o_alloc K fun x2 => o_nil<|h_seq<|h_seq ?_
  refine H<|G Z K<|G Z K<|o_callN Z Z EntC.out K (pieces_spec a b fa fb) fun v h' hr => ?_
  obtain ⟨e5, e2, e3, rfl, rfl⟩ := hr
  refine o_nil<|h_block<|h_rangeFunc Z EntC.out (Split.front [_, _, _] _) K (fun Y => pieces2_spec a b fa fb _ _ _ Y) (by intro args ha; obtain ⟨p, _, rfl⟩ := List.mem_map.1 ha; rfl) (CombI a b hol x2 ((x1, .box 52 [.fn g caps]) :: hH)) (fun _ _ => False) (.nil 0 _ (by simp [outM]) (.refl _)) ?_ ?_ (by intro c D h' hx; exact hx.elim)
  · intro Y l i args h1 he hI
    obtain ⟨n, t, x, y, hp, rfl⟩ := es_get he
    cases hI with
    | nil ho hs =>
      refine h_sub _ hs<|h_seq<|H<|o_alloc K fun x3 => ?_
      refine o_store 0 Z Z Z Z Z Z<|o_nil<|H<|o_alloc K fun x4 => ?_
      refine o_store 0 Z Z Z Z Z Z<|o_nil<|h_block<|h_seq<|H<|O 3 Z Z Z Z K<|o_idxa Z Z K K K<|O 0 Z Z Z Z K<|o_idxa Z Z K K K<|O 0 Z Z Z Z K<|o_callR (h2 := [_, _, _, _]) rfl rfl rfl hg.out K (hh x y) fun v h' hr => ?_
      obtain ⟨rfl, rfl⟩ := hr
      refine S Z K<|o_nil<|h_seq<|h_seq<|H<|G Z K<|o_cmp Z Z Z K<|o_nil<|h_cond Z (fun c6 => ?_) (fun c6 => ?_)
      ·
        exact h_exit<|.nil _ _ (by rw [out_keep hp (by simpa using c6)]; exact ho) (.cons _ (.cons _ (.cons_cons _ (.cons_cons _ (.refl _)))))
      ·
        refine h_skip<|h_seq<|h_seq<|H<|O 2 Z Z Z Z K<|o_len Z K<|S Z K<|o_nil<|h_seq<|h_draw _ (List.nil_sublist _) [(0, .flo), (1, .flo), (2, .flo), (3, .val), (4, .flo), (5, .flo), (6, .flo), (7, .flo), (8, .flo), (9, .val), (10, .flo), (11, .val), (12, .flo), (13, .flo), (14, .flo), (15, .val), (16, .flo), (17, .flo), (18, .flo), (19, .flo), (20, .val), (21, .flo), (22, .flo), (23, .flo)] mixed (by kernel_rfl)<|C Z Z (fun jj => G Z K jj)<|C Z Z (fun jj => o_cmp Z Z Z K jj) ?_
        refine C Z Z (fun jj => G Z K jj)<|c_val Z Z (fun _ _ _ _ jj => U Z Z K K jj)<|C Z Z (fun jj => U Z Z K K jj)<|C Z Z (fun jj => U Z Z K K jj)<|C Z Z (fun jj => U Z Z K K jj)<|C Z Z (fun jj => U Z Z K K jj)<|C Z Z (fun jj => U Z Z K K jj)<|c_val Z Z (fun _ _ _ _ jj => U Z Z K K jj)<|C Z Z (fun jj => U Z Z K K jj)<|c_val Z Z (fun _ _ _ _ jj => U Z Z K K jj)<|C Z Z (fun jj => U Z Z K K jj)<|C Z Z (fun jj => o_pickf Z K rfl K jj) ?_
        refine C Z Z (fun jj => G Z K jj)<|c_val Z Z (fun _ _ _ _ jj => U Z Z Z K jj)<|C Z Z (fun jj => U Z Z Z K jj)<|C Z Z (fun jj => U Z Z Z K jj)<|C Z Z (fun jj => U Z Z Z K jj)<|C Z Z (fun jj => U Z Z Z K jj)<|c_val Z Z (fun _ _ _ _ jj => U Z Z Z K jj)<|C Z Z (fun jj => U Z Z Z K jj)<|C Z Z (fun jj => U Z Z Z K jj)<|C Z Z (fun jj => o_pickf Z Z Z K jj)<|c_nil<|h_condf Z Z ?_
        refine h_skip<|H<|O 2 Z Z Z Z K<|O 1 Z Z Z Z K<|G Z K<|o_build Z Z K<|o_buildSlicep Z (by rfl) (by rfl) (by rfl) (by rfl) K ?_
        refine o_appendv Z Z (Src.v _ _) (okB_one rfl) (by simp) (by first | decide | (rw [chunk_length]; omega)) (by have := outM_len a b hol i; simp [chunk_length]; try omega) K fun x8 c9 hc10 => ?_
        refine o_store 3 Z Z Z Z Z Z<|o_nil ?_
        have hk : ¬ hol x y = -1 := by simpa using c6
        have ho2 := out_first hp hk ho
        exact .some _ _ _ _ _ _ (by rw [ho2]; first | exact set_last hne ⟨_, t, _⟩ | simp [encB, chunk]) (by rw [ho2]; simp [chunk_length]; try (have := List.length_pos_iff.2 hne; omega)) (by rw [ho2]; simp) (by simpa [chunk_length] using hc10) (.cons_cons _ (.cons _ (.cons _ (.cons_cons _ (.cons_cons _ (.refl _))))))
    | some ob c' es len he hl hne hc hs =>
      subst he; subst hl
      refine h_sub _ hs<|h_seq<|H<|o_alloc K fun x11 => ?_
      refine o_store 0 Z Z Z Z Z Z<|o_nil<|H<|o_alloc K fun x12 => ?_
      refine o_store 0 Z Z Z Z Z Z<|o_nil<|h_block<|h_seq<|H<|O 4 Z Z Z Z K<|o_idxa Z Z K K K<|O 0 Z Z Z Z K<|o_idxa Z Z K K K<|O 0 Z Z Z Z K<|o_callR (h2 := [_, _, _, _, _]) rfl rfl rfl hg.out K (hh x y) fun v h' hr => ?_
      obtain ⟨rfl, rfl⟩ := hr
      refine S Z K<|o_nil<|h_seq<|h_seq<|H<|G Z K<|o_cmp Z Z Z K<|o_nil<|h_cond Z (fun c14 => ?_) (fun c14 => ?_)
      ·
        exact h_exit<|.some _ _ _ _ _ _ (by rw [out_keep hp (by simpa using c14)]) (by rw [out_keep hp (by simpa using c14)]) (by rw [out_keep hp (by simpa using c14)]; exact hne) hc (.cons _ (.cons _ (.cons_cons _ (.cons_cons _ (.cons_cons _ (.refl _))))))
      ·
        refine h_skip<|h_seq<|h_seq<|H<|O 3 Z Z Z Z K<|o_leno Z K<|S Z K<|o_nil<|h_seq<|h_draw _ (List.nil_sublist _) [(0, .flo), (1, .flo), (2, .flo), (3, .val), (4, .flo), (5, .flo), (6, .flo), (7, .flo), (8, .flo), (9, .val), (10, .flo), (11, .val), (12, .flo), (13, .flo), (14, .flo), (15, .val), (16, .flo), (17, .flo), (18, .flo), (19, .flo), (20, .val), (21, .flo), (22, .flo), (23, .flo)] mixed (by kernel_rfl)<|C Z Z (fun jj => G Z K jj)<|C Z Z (fun jj => o_cmp Z Z Z K jj) ?_
        refine C Z Z (fun jj => G Z K jj)<|c_val Z Z (fun _ _ _ _ jj => W Z Z (by have := List.length_pos_iff.2 hne; simp; omega) K (O 3 Z Z Z Z K jj)) ?_
        refine C Z Z (fun jj => W Z Z (by have := List.length_pos_iff.2 hne; simp; omega) K (G Z K jj)) ?_
        refine C Z Z (fun jj => W Z Z (by have := List.length_pos_iff.2 hne; simp; omega) K (o_sub Z Z (by have := outM_len a b hol i; unfold in64; (try dsimp only); omega) K jj)) ?_
        refine C Z Z (fun jj => W Z Z (by have := List.length_pos_iff.2 hne; simp; omega) K (o_idxo Z Z (by have := List.length_pos_iff.2 hne; omega) (by have := List.length_pos_iff.2 hne; simp; omega) K jj)) ?_
        refine C Z Z (fun jj => W Z Z (by have := List.length_pos_iff.2 hne; simp; omega) K (o_faddre Z Z K K jj)) ?_
        refine C Z Z (fun jj => W Z Z (by have := List.length_pos_iff.2 hne; simp; omega) K (o_faddre Z Z K K jj)) ?_
        refine c_val Z Z (fun _ _ _ _ jj => W Z Z (by have := List.length_pos_iff.2 hne; simp; omega) K (o_loade 2 Z Z (lastE hne) rfl rfl K jj)) ?_
        refine C Z Z (fun jj => W Z Z (by have := List.length_pos_iff.2 hne; simp; omega) K (F Z Z K K jj)) ?_
        refine c_val Z Z (fun _ _ _ _ jj => W Z Z (by have := List.length_pos_iff.2 hne; simp; omega) K (O 1 Z Z Z Z K jj)) ?_
        refine C Z Z (fun jj => W Z Z (by have := List.length_pos_iff.2 hne; simp; omega) K (o_cmp Z Z Z K jj)) ?_
        refine C Z Z (fun jj => o_pickt Z (by have := List.length_pos_iff.2 hne; simp; omega) rfl K jj) ?_
        refine C Z Z (fun jj => G Z K jj)<|c_split (t := 42) rfl (fun g17 => ?_) (fun g17 => ?_)
        ·
          have g17 : _ = true := g17
          refine c_val Z Z (fun _ _ _ _ jj => W Z Z g17 K (O 3 Z Z Z Z K jj))<|C Z Z (fun jj => W Z Z g17 K (G Z K jj))<|C Z Z (fun jj => W Z Z g17 K (o_sub Z Z (by have := outM_len a b hol i; unfold in64; (try dsimp only); omega) K jj)) ?_
          refine C Z Z (fun jj => W Z Z g17 K (o_idxo Z Z (by have := List.length_pos_iff.2 hne; omega) (by have := List.length_pos_iff.2 hne; simp; omega) K jj)) ?_
          refine C Z Z (fun jj => W Z Z g17 K (o_faddre Z Z K K jj))<|c_val Z Z (fun _ _ _ _ jj => W Z Z g17 K (o_loade 2 Z Z (lastE hne) rfl rfl K jj))<|C Z Z (fun jj => W Z Z g17 K (G Z K jj))<|C Z Z (fun jj => W Z Z g17 K (o_cmp Z Z Z K jj))<|C Z Z (fun jj => o_pickt Z g17 rfl K jj)<|c_nil<|h_cond Z (fun c19 => ?_) (fun c19 => ?_)
          ·
            refine h_seq<|H<|O 3 Z Z Z Z K<|G Z K<|o_sub Z Z (by have := outM_len a b hol i; unfold in64; (try dsimp only); omega) K ?_
            refine F Z Z K K<|O 1 Z Z Z Z K<|o_idxo Z Z (by have := List.length_pos_iff.2 hne; omega) (by have := List.length_pos_iff.2 hne; simp; omega) K ?_
            refine o_faddre Z Z K K<|o_faddre Z Z K K ?_
            refine o_storee 2 Z Z (lastE hne) rfl rfl rfl rfl (by simp [encB]) ?_
            refine o_nil<|h_exit ?_
            have hk : ¬ hol x y = -1 := by simpa using c14
            have ho2 := out_long hp hk hne (by simp_all)
            exact .some _ _ _ _ _ _ (by rw [ho2]; first | exact set_last hne ⟨_, t, _⟩ | simp [encB, chunk]) (by rw [ho2]; simp [chunk_length]; try (have := List.length_pos_iff.2 hne; omega)) (by rw [ho2]; simp) hc (.cons _ (.cons _ (.cons_cons _ (.cons_cons _ (.cons_cons _ (.refl _))))))
          ·
            refine h_skip<|H<|O 3 Z Z Z Z K<|O 1 Z Z Z Z K<|G Z K<|o_build Z Z K<|o_buildSlicep Z (by rfl) (by rfl) (by rfl) (by rfl) K ?_
            refine o_append 2 Z Z Z (Src.v _ _) (okB_one rfl) (by simp) (by have := outM_len a b hol i; simp [chunk_length]; try omega) K fun x20 c21 hc22 => ?_
            refine o_store 3 Z Z Z Z Z Z<|o_nil ?_
            have hk : ¬ hol x y = -1 := by simpa using c14
            have ho2 := out_more hp hk hne (by simp_all)
            exact .some _ _ _ _ _ _ (by rw [ho2]; first | exact set_last hne ⟨_, t, _⟩ | simp [encB, chunk]) (by rw [ho2]; simp [chunk_length]; try (have := List.length_pos_iff.2 hne; omega)) (by rw [ho2]; simp) (by simpa [chunk_length] using hc22) (.cons _ (.cons _ (.cons_cons _ (.cons_cons _ (.cons_cons _ (.refl _))))))
        ·
          have g17 : _ = false := g17
          refine c_val Z Z (fun _ _ _ _ jj => U Z Z g17 K jj)<|C Z Z (fun jj => U Z Z g17 K jj)<|C Z Z (fun jj => U Z Z g17 K jj)<|C Z Z (fun jj => U Z Z g17 K jj)<|C Z Z (fun jj => U Z Z g17 K jj)<|c_val Z Z (fun _ _ _ _ jj => U Z Z g17 K jj)<|C Z Z (fun jj => U Z Z g17 K jj)<|C Z Z (fun jj => U Z Z g17 K jj)<|C Z Z (fun jj => o_pickf Z g17 rfl K jj)<|c_nil<|h_condf Z Z<|h_skip ?_
          refine H<|O 3 Z Z Z Z K<|O 1 Z Z Z Z K<|G Z K<|o_build Z Z K<|o_buildSlicep Z (by rfl) (by rfl) (by rfl) (by rfl) K ?_
          refine o_append 2 Z Z Z (Src.v _ _) (okB_one rfl) (by simp) (by have := outM_len a b hol i; simp [chunk_length]; try omega) K fun x23 c24 hc25 => ?_
          refine o_store 3 Z Z Z Z Z Z<|o_nil ?_
          have hk : ¬ hol x y = -1 := by simpa using c14
          have ho2 := out_more hp hk hne (by simp_all)
          exact .some _ _ _ _ _ _ (by rw [ho2]; first | exact set_last hne ⟨_, t, _⟩ | simp [encB, chunk]) (by rw [ho2]; simp [chunk_length]; try (have := List.length_pos_iff.2 hne; omega)) (by rw [ho2]; simp) (by simpa [chunk_length] using hc25) (.cons _ (.cons _ (.cons_cons _ (.cons_cons _ (.cons_cons _ (.refl _))))))
  · intro D h' hI
    cases hI with
    | nil ho hs =>
      refine h_sub _ (.cons_cons _ hs) ?_
      rw [outM_all] at *
      refine h_seq<|h_seq<|H<|O 1 Z Z Z Z K<|o_len Z K<|o_cmp Z Z Z K<|o_nil<|h_condf Z K<|h_skip<|h_seq<|H<|O 1 Z Z Z Z K ?_
      refine S Z K<|S Z K<|o_nil<|h_ret<|retD2 [D] rfl (by simp) (by simp) rfl rfl (.refl _) (.refl _) ⟨_, rfl, ?_, rfl⟩
      simp [encR, combM, ho]; first | rfl | exact ⟨rfl, rfl⟩
    | some ob c' es len he hl hne hc hs =>
      subst he; subst hl
      refine h_sub _ (.cons_cons _ hs) ?_
      rw [outM_all] at *
      refine h_seq<|h_seq<|H<|O 2 Z Z Z Z K<|o_leno Z K<|o_cmp Z Z Z K<|o_nil<|h_cond Z (fun c28 => ?_) (fun c28 => ?_)
      ·
        refine h_seq<|H<|S Z K<|S Z K<|o_nil<|h_ret<|retD2 [D] rfl (by simp) (by simp) rfl rfl (.refl _) (.refl _) ⟨_, rfl, ?_, rfl⟩
        have hg : 40 < (combOut a b hol).length := by have := c28; simp at this; omega
        simp [encR, combM, hg]; first | rfl | exact ⟨rfl, rfl⟩
      ·
        refine h_skip<|h_seq<|H<|O 2 Z Z Z Z K<|S Z K<|S Z K<|o_nil<|h_ret<|retD2 [D] rfl (by simp) (by simp) rfl rfl (frz_os (List.mem_cons_of_mem _ List.mem_cons_self) (by simp) hc) (.refl _) ⟨_, rfl, ?_, rfl⟩
        have hg : ¬ 40 < (combOut a b hol).length := by have := c28; simp at this; omega
        simp [encR, combM, hg, List.isEmpty_eq_false_iff.2 hne]; rfl

end Go.Proofs.YtnoicbajhlpndaaGreat
/- The walks of package block: Only, Swap, Overlay, Count. -/
namespace Go.Proofs.YtnoicbajhlpndaaGreat
open Go Go.RowKit Go.Shelf Hp
set_option maxRecDepth 10000
set_option maxHeartbeats 1000000
set_option linter.unusedVariables false
set_option linter.unusedSimpArgs false
attribute [local irreducible] WP WPs FnX IterX YdX RetP PanP Ch Back Join
def onlyB (l : List Blk) (f t : Int) : List Blk × Int := if !validB l || !rangeOk f t then ([], 130) else combM l [⟨f, t, 0⟩] onlyM
def swapB (l : List Blk) (f t : Int) : List Blk × Int := if !validB l || !carOk f || !carOk t then ([], 130) else combM l [] (swapM f t)
def overlayB (a b : List Blk) : List Blk × Int := if !validB a || !validB b then ([], 130) else combM a b overM
theorem only_hh (x y : Int) : Fc Tryz.prog 220 ([I x, I y] ++ []) [] (fun r h' => r = I (onlyM x y) ∧ h' = []) := only1_spec x y
theorem over_hh (x y : Int) : Fc Tryz.prog 221 ([I x, I y] ++ []) [] (fun r h' => r = I (overM x y) ∧ h' = []) := over_spec x y

theorem only_spec (l : List Blk) (fl : Bool) (f t : Int) : Fn1 Tryz.prog 204 [V (l.map encB) fl, .agg [I f, I t]] (encR (onlyB l f t)) := by
 refine fnE_intro (N := 20) Tryz.func204 rfl rfl rfl ?_
 intro X
 refine h_seq<|H<|o_box Z Z K fun x1 => S Z K<|S Z K<|o_nil<|h_seq<|h_seq<|H<|G Z K<|o_call1 Z Z EntC.out K (bvalid_spec _ _)<|o_not Z K ?_
 refine G Z K<|o_guard Z Z K (fun g3 => ?_) (fun g3 => ?_)
 ·
  have g3 : _ = false := g3
  refine O 0 Z Z Z Z K<|W Z Z g3 K<|o_call1 Z Z EntC.out K (isRange_spec _ _)<|W Z Z g3 K<|o_not Z K<|o_pickf Z g3 rfl K<|o_nil<|h_cond Z (fun c5 => ?_) (fun c5 => ?_)
  ·
   refine h_seq<|H<|S Z K<|S Z K<|o_nil<|h_ret<|ret2' Z Z ?_
   (unfold onlyB; simp_all [encR, cav_nil, cav_int, cav_bool]; try rfl)
  ·
   refine h_skip<|h_seq<|H<|G Z K<|O 0 Z Z Z Z K<|o_call1 Z Z EntC.out K (on_spec _ _ _)<|o_callN Z Z EntC.out K (combine_spec l [⟨f, t, 0⟩] _ _ _ [] [] onlyM only_hh) fun v h' hr => ?_
   obtain ⟨rfl, rfl⟩ := hr
   refine o_extract Z Z K<|o_extract Z Z K<|S Z K<|S Z K<|o_nil<|h_ret<|ret2' Z Z ?_
   (unfold onlyB; simp_all [encR, cav_nil, cav_int, cav_bool]; try rfl)
 ·
  have g3 : _ = true := g3
  refine U Z Z g3 K<|U Z Z g3 K<|o_pickt Z g3 rfl K<|o_nil<|h_condt Z Z<|h_seq<|H<|S Z K<|S Z K<|o_nil<|h_ret<|ret2' Z Z ?_
  (unfold onlyB; simp_all [encR, cav_nil, cav_int, cav_bool]; try rfl)

theorem overlay_spec (a b : List Blk) (fa fb : Bool) : Fn1 Tryz.prog 205 [V (a.map encB) fa, V (b.map encB) fb] (encR (overlayB a b)) := by
 refine fnE_intro (N := 19) Tryz.func205 rfl rfl rfl ?_
 intro X
 refine h_seq<|H<|S Z K<|S Z K<|o_nil<|h_seq<|h_seq<|H<|G Z K<|o_call1 Z Z EntC.out K (bvalid_spec _ _)<|o_not Z K<|G Z K ?_
 refine o_guard Z Z K (fun g7 => ?_) (fun g7 => ?_)
 ·
  have g7 : _ = false := g7
  refine G Z K<|W Z Z g7 K<|o_call1 Z Z EntC.out K (bvalid_spec _ _)<|W Z Z g7 K<|o_not Z K<|o_pickf Z g7 rfl K<|o_nil<|h_cond Z (fun c9 => ?_) (fun c9 => ?_)
  ·
   refine h_seq<|H<|S Z K<|S Z K<|o_nil<|h_ret<|ret2' Z Z ?_
   (unfold overlayB; simp_all [encR, cav_nil, cav_int, cav_bool]; try rfl)
  ·
   refine h_skip<|h_seq<|H<|G Z K<|G Z K<|o_callN Z Z EntC.out K (combine_spec a b _ _ _ [] [] overM over_hh) fun v h' hr => ?_
   obtain ⟨rfl, rfl⟩ := hr
   refine o_extract Z Z K<|o_extract Z Z K<|S Z K<|S Z K<|o_nil<|h_ret<|ret2' Z Z ?_
   (unfold overlayB; simp_all [encR, cav_nil, cav_int, cav_bool]; try rfl)
 ·
  have g7 : _ = true := g7
  refine U Z Z g7 K<|U Z Z g7 K<|o_pickt Z g7 rfl K<|o_nil<|h_condt Z Z<|h_seq<|H<|S Z K<|S Z K<|o_nil<|h_ret<|ret2' Z Z ?_
  (unfold overlayB; simp_all [encR, cav_nil, cav_int, cav_bool]; try rfl)

theorem swap1_perm (f t x y : Int) (e2 e3 : Nat) : Fc Tryz.prog 218 ([I x, I y] ++ [.ptr e2 0, .ptr e3 0]) [(e3, .box 3 [I t]), (e2, .box 3 [I f])] (fun r h' => r = I (swapM f t x y) ∧ h' = [(e3, .box 3 [I t]), (e2, .box 3 [I f])]) :=
  Fc.perm1 (List.Perm.swap _ _ _) (swap1_spec f t x y e2 e3)

theorem swap_spec (l : List Blk) (fl : Bool) (f t : Int) : Fn1 Tryz.prog 201 [V (l.map encB) fl, I f, I t] (encR (swapB l f t)) := by
 refine fnE_intro (N := 26) Tryz.func201 rfl rfl rfl ?_
 intro X
 refine h_seq<|H<|o_box Z Z K fun x10 => o_box Z Z K fun x11 => S Z K<|S Z K<|o_nil<|h_seq<|h_seq<|H<|G Z K<|o_call1 Z Z EntC.out K (bvalid_spec _ _) ?_
 refine o_not Z K<|G Z K<|o_guard Z Z K (fun g13 => ?_) (fun g13 => ?_)
 ·
  have g13 : _ = false := g13
  refine O 1 Z Z Z Z K<|W Z Z g13 K<|o_call1 Z Z EntC.out K (bisCarrier_spec _)<|W Z Z g13 K<|o_not Z K<|o_pickf Z g13 rfl K<|G Z K<|o_guard Z Z K (fun g15 => ?_) (fun g15 => ?_)
  ·
   have g15 : _ = false := g15
   refine O 0 Z Z Z Z K<|W Z Z g15 K<|o_call1 Z Z EntC.out K (bisCarrier_spec _)<|W Z Z g15 K<|o_not Z K<|o_pickf Z g15 rfl K<|o_nil<|h_cond Z (fun c17 => ?_) (fun c17 => ?_)
   ·
    refine h_seq<|H<|S Z K<|S Z K<|o_nil<|h_ret<|ret2' Z Z ?_
    (unfold swapB; simp_all [encR, cav_nil, cav_int, cav_bool]; try rfl)
   ·
    refine h_skip<|h_seq<|H<|G Z K<|o_makeFunc Z K<|o_callA Z Z EntC.out K (combine_spec l [] _ _ _ [.ptr x10 0, .ptr x11 0] [(x11, .box 3 [I t]), (x10, .box 3 [I f])] (swapM f t) (fun x y => swap1_perm f t x y x10 x11)) fun v h' hr => ?_
    obtain ⟨rfl, rfl⟩ := hr
    refine o_extract Z Z K<|o_extract Z Z K<|S Z K<|S Z K<|o_nil<|h_ret<|ret2' Z Z ?_
    (unfold swapB; simp_all [encR, cav_nil, cav_int, cav_bool]; try rfl)
  ·
   have g15 : _ = true := g15
   refine U Z Z g15 K<|U Z Z g15 K<|o_pickt Z g15 rfl K<|o_nil<|h_condt Z Z<|h_seq<|H<|S Z K<|S Z K<|o_nil<|h_ret<|ret2' Z Z ?_
   (unfold swapB; simp_all [encR, cav_nil, cav_int, cav_bool]; try rfl)
 ·
  have g13 : _ = true := g13
  refine U Z Z g13 K<|U Z Z g13 K<|o_pickt Z g13 rfl K<|G Z K<|U Z Z Z K<|U Z Z Z K<|U Z Z Z K<|o_pickt Z Z Z K<|o_nil<|h_condt Z Z<|h_seq<|H ?_
  refine S Z K<|S Z K<|o_nil<|h_ret<|ret2' Z Z ?_
  (unfold swapB; simp_all [encR, cav_nil, cav_int, cav_bool]; try rfl)

end Go.Proofs.YtnoicbajhlpndaaGreat
/- The walk of block.Count. -/
namespace Go.Proofs.YtnoicbajhlpndaaGreat
open Go Go.RowKit Go.Shelf Hp
set_option maxRecDepth 10000
set_option maxHeartbeats 1000000
set_option linter.unusedVariables false
set_option linter.unusedSimpArgs false
attribute [local irreducible] WP WPs FnX IterX YdX RetP PanP Ch Back Join
theorem badB_range {l b : Blk} (h : badB l b = false) : 0 ≤ b.f ∧ b.f < b.t ∧ b.t ≤ 100000000 ∧ 0 ≤ b.c ∧ b.c ≤ 7 ∧ l.t ≤ b.f ∧ ¬ (b.f = l.t ∧ b.c = l.c) := by
  simp [badB, rangeOk, carOk] at h
  omega
theorem valid_get {l : List Blk} (h : validB l = true) {k : Nat} (hk : k < l.length) : badB (lastB l k) l[k] = false := by
  simp only [validB, Bool.and_eq_true, Bool.not_eq_true', List.any_eq_false, List.mem_range] at h
  have := h.2 k hk
  simpa [badAt, hk] using this
theorem valid_len {l : List Blk} (h : validB l = true) : l.length ≤ 40 := by
  simp only [validB, Bool.and_eq_true, decide_eq_true_eq] at h; exact h.1
end Go.Proofs.YtnoicbajhlpndaaGreat
