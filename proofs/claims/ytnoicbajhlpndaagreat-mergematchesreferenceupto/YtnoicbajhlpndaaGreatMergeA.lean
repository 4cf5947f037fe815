/- The walks of package merge: the small functions. -/
import Derived.Test.YtnoicbajhlpndaaGreatBlockA
namespace Go.Proofs.YtnoicbajhlpndaaGreat
open Go Go.RowKit Go.Shelf Hp
set_option maxRecDepth 10000
set_option maxHeartbeats 1000000
set_option linter.unusedVariables false
set_option linter.unusedSimpArgs false
attribute [local irreducible] WP WPs FnX IterX YdX RetP PanP Ch Back Join
def inM (n low high : Int) : Bool := decide (low ≤ n) && decide (n ≤ high)
def moneyOk (n : Int) : Bool := inM n (-1000000000000) 1000000000000
/-- Whether a set has a carrier. -/
def hasC (s c : Int) : Bool := decide (bits64 .and (s / 2 ^ c.toNat) 1 = 1)

theorem isIn_spec (n low high : Int) : Fn1 Tryz.prog 68 [I n, I low, I high] (B (inM n low high)) := by
 refine fnE_intro (N := 15) Tryz.func68 rfl rfl rfl ?_
 intro X
 refine h_seq<|H<|S Z K<|o_nil<|h_seq<|H<|G Z K<|G Z K<|o_cmp Z Z Z K<|G Z K<|o_guard Z Z K (fun g2 => ?_) (fun g2 => ?_)
 ·
  have g2 : _ = true := g2
  refine G Z K<|W Z Z g2 K<|G Z K<|W Z Z g2 K<|o_cmp Z Z Z K<|o_pickt Z g2 rfl K<|S Z K<|o_nil<|h_ret ?_
  (refine ret1' rfl (B_eq ?_); unfold inM; (try simp_all [ceqs, ceq]); (try (intros; omega)); (try (intros; exfalso; omega)))
 ·
  have g2 : _ = false := g2
  refine U Z Z g2 K<|U Z Z g2 K<|o_pickf Z g2 rfl K<|S Z K<|o_nil<|h_ret ?_
  (refine ret1' rfl (B_eq ?_); unfold inM; (try simp_all [ceqs, ceq]); (try (intros; omega)); (try (intros; exfalso; omega)))

theorem misCarrier_spec (n : Int) : Fn1 Tryz.prog 85 [I n] (B (carOk n)) := by
 refine fnE_intro (N := 5) Tryz.func85 rfl rfl rfl ?_
 intro X
 refine h_seq<|H<|S Z K<|o_nil<|h_seq<|H<|G Z K<|o_call1 Z Z EntC.out K (isIn_spec _ _ _)<|S Z K<|o_nil<|h_ret ?_
 (refine ret1' rfl (B_eq ?_); unfold carOk inM; rw [Bool.eq_iff_iff]; simp)

theorem isMoney_spec (n : Int) : Fn1 Tryz.prog 73 [I n] (B (moneyOk n)) := by
 refine fnE_intro (N := 5) Tryz.func73 rfl rfl rfl ?_
 intro X
 exact h_seq<|H<|S Z K<|o_nil<|h_seq<|H<|G Z K<|o_call1 Z Z EntC.out K (isIn_spec _ _ _)<|S Z K<|o_nil<|h_ret<|ret1' Z Z

theorem has_spec (s c : Int) (h0 : 0 ≤ c) (h1 : c ≤ 63) : Fn1 Tryz.prog 72 [I s, I c] (B (hasC s c)) := by
 refine fnE_intro (N := 10) Tryz.func72 rfl rfl rfl ?_
 intro X
 refine h_seq<|H<|S Z K<|o_nil<|h_seq<|H<|G Z K<|G Z K<|o_shr Z Z (by omega) (by omega) K<|o_bits K rfl rfl K<|o_cmp Z Z Z K<|S Z K ?_
 exact o_nil<|h_ret<|ret1' Z Z

structure Ev where
  kind : Int
  t : Int
  a : Int
  b : Int
  c : Int
  f : Int
  to : Int
  m : Int
  deriving DecidableEq
abbrev encE (e : Ev) : AV := .agg [I e.kind, I e.t, I e.a, I e.b, I e.c, I e.f, I e.to, I e.m]
def bareE (e : Ev) : Bool := decide (e.f = 0 ∧ e.to = 0) && decide (e.m = 0)
def fullE (e : Ev) : Bool := decide (0 ≤ e.f) && decide (e.f < e.to) && decide (e.to ≤ 100000000) && moneyOk e.m

theorem isBare_spec (e : Ev) : Fn1 Tryz.prog 199 [encE e] (B (bareE e)) := by
 refine fnE_intro (N := 12) Tryz.func199 rfl rfl rfl ?_
 intro X
 refine h_seq<|H<|o_box Z Z K fun x7 => S Z K<|o_nil<|h_seq<|H<|F Z Z K K<|O 0 Z Z Z Z K<|o_build Z Z K<|o_eqS Z Z Z Z K<|G Z K ?_
 refine o_guard Z Z K (fun g9 => ?_) (fun g9 => ?_)
 ·
  have g9 : _ = true := g9
  refine F Z Z K K<|W Z Z g9 K<|O 0 Z Z Z Z K<|W Z Z g9 K<|o_cmp Z Z Z K<|o_pickt Z g9 rfl K<|S Z K<|o_nil<|h_ret ?_
  (refine ret1' rfl (B_eq ?_); unfold bareE; (try simp_all [ceqs, ceq]); (try (intros; omega)); (try (intros; exfalso; omega)))
 ·
  have g9 : _ = false := g9
  refine U Z Z g9 K<|U Z Z g9 K<|o_pickf Z g9 rfl K<|S Z K<|o_nil<|h_ret ?_
  (refine ret1' rfl (B_eq ?_); unfold bareE; (try simp_all [ceqs, ceq]); (try (intros; omega)); (try (intros; exfalso; omega)))

theorem isFull_spec (e : Ev) : Fn1 Tryz.prog 203 [encE e] (B (fullE e)) := by
 refine fnE_intro (N := 26) Tryz.func203 rfl rfl rfl ?_
 intro X
 refine h_seq<|H<|o_box Z Z K fun x11 => S Z K<|o_nil<|h_seq<|H<|F Z Z K K<|O 0 Z Z Z Z K<|o_alloc K fun x12 => ?_
 refine o_store 0 Z Z Z Z Z Z<|o_nil<|h_seq<|H<|F Z Z K K<|O 0 Z Z Z Z K<|o_cmp Z Z Z K<|G Z K<|o_guard Z Z K (fun g14 => ?_) (fun g14 => ?_)
 ·
  have g14 : _ = true := g14
  refine F Z Z K K<|W Z Z g14 K<|O 0 Z Z Z Z K<|W Z Z g14 K<|F Z Z K K<|W Z Z g14 K<|O 0 Z Z Z Z K<|W Z Z g14 K<|o_cmp Z Z Z K<|o_pickt Z g14 rfl K<|G Z K<|o_guard Z Z K (fun g16 => ?_) (fun g16 => ?_)
  ·
   have g16 : _ = true := g16
   refine F Z Z K K<|W Z Z g16 K<|O 0 Z Z Z Z K<|W Z Z g16 K<|o_cmp Z Z Z K<|o_pickt Z g16 rfl K<|G Z K<|o_guard Z Z K (fun g18 => ?_) (fun g18 => ?_)
   ·
    have g18 : _ = true := g18
    refine F Z Z K K<|W Z Z g18 K<|O 1 Z Z Z Z K<|W Z Z g18 K<|o_call1 Z Z EntC.out K (isMoney_spec _)<|o_pickt Z g18 rfl K<|S Z K<|o_nil<|h_ret ?_
    (refine ret1' rfl (B_eq ?_); unfold fullE; (try simp_all [ceqs, ceq]); (try (intros; omega)); (try (intros; exfalso; omega)))
   ·
    have g18 : _ = false := g18
    refine U Z Z g18 K<|U Z Z g18 K<|o_pickf Z g18 rfl K<|S Z K<|o_nil<|h_ret ?_
    (refine ret1' rfl (B_eq ?_); unfold fullE; (try simp_all [ceqs, ceq]); (try (intros; omega)); (try (intros; exfalso; omega)))
  ·
   have g16 : _ = false := g16
   refine U Z Z g16 K<|U Z Z g16 K<|o_pickf Z g16 rfl K<|G Z K<|U Z Z Z K<|U Z Z Z K<|U Z Z Z K<|o_pickf Z Z Z K<|S Z K<|o_nil<|h_ret ?_
   (refine ret1' rfl (B_eq ?_); unfold fullE; (try simp_all [ceqs, ceq]); (try (intros; omega)); (try (intros; exfalso; omega)))
 ·
  have g14 : _ = false := g14
  refine U Z Z g14 K<|U Z Z g14 K<|U Z Z g14 K<|U Z Z g14 K<|o_pickf Z g14 rfl K<|G Z K<|U Z Z Z K<|U Z Z Z K<|U Z Z Z K<|o_pickf Z Z Z K<|G Z K<|U Z Z Z K ?_
  refine U Z Z Z K<|U Z Z Z K<|o_pickf Z Z Z K<|S Z K<|o_nil<|h_ret ?_
  (refine ret1' rfl (B_eq ?_); unfold fullE; (try simp_all [ceqs, ceq]); (try (intros; omega)); (try (intros; exfalso; omega)))

end Go.Proofs.YtnoicbajhlpndaaGreat
/- Copies of slices; the greatest and the least of a slice of numbers. -/
namespace Go.Proofs.YtnoicbajhlpndaaGreat
open Go Go.RowKit Go.Shelf Hp
set_option maxRecDepth 10000
set_option maxHeartbeats 1000000
set_option linter.unusedVariables false
set_option linter.unusedSimpArgs false
attribute [local irreducible] WP WPs FnX IterX YdX RetP PanP Ch Back Join
def encI (n : Int) : List PV := [pI n]
theorem okB_B {l : List Blk} : ∀ z ∈ l.map encB, okB 3 z = true := by
  intro z hz; obtain ⟨b, _, rfl⟩ := List.mem_map.1 hz; rfl
theorem okB_I {l : List Int} : ∀ z ∈ l.map encI, okB 1 z = true := by
  intro z hz; obtain ⟨b, _, rfl⟩ := List.mem_map.1 hz; rfl

theorem cloneB_nil (f : Bool) : Fc Tryz.prog 127 [V [] f] [] (fun r h' => (∃ f', r = V [] f') ∧ h' = []) := by
 refine fnE_intro (N := 8) Tryz.func127 rfl rfl rfl ?_
 intro X
 refine h_seq<|H<|S Z K<|o_nil<|h_seq<|h_seq<|H<|G Z K<|o_eqnil Z K fun b1 hbb1 => o_nil<|h_cond Z (fun c2 => ?_) (fun c2 => ?_)
 ·
  exact h_seq<|H<|S Z K<|o_nil<|h_ret<|ret1 rfl ⟨_, rfl, ⟨_, rfl⟩, rfl⟩
 ·
  refine h_skip<|h_seq<|H<|o_buildSlicep Z (by rfl) (by rfl) (by rfl) (by rfl) K ?_
  exact G Z K<|o_append0 Z Z K<|S Z K<|o_nil<|h_ret<|ret1 rfl ⟨_, rfl, ⟨_, rfl⟩, rfl⟩

theorem cloneB_cons (x : Blk) (l : List Blk) (hlen : l.length ≤ 1000000000) (f : Bool) : Fc Tryz.prog 127 [V ((x :: l).map encB) f] [] (fun r h' => (∃ f', r = V ((x :: l).map encB) f') ∧ h' = []) := by
 refine fnE_intro (N := 8) Tryz.func127 rfl rfl rfl ?_
 intro X
 refine h_seq<|H<|S Z K<|o_nil<|h_seq<|h_seq<|H<|G Z K<|o_eqnil Z K fun b3 hbb3 => o_nil<|h_cond Z (fun c4 => ?_) (fun c4 => ?_)
 ·
  exact h_seq<|H<|S Z K<|o_nil<|h_ret<|absurd (hbb3 c4) (by simp)
 ·
  refine h_skip<|h_seq<|H<|o_buildSlicep Z (by rfl) (by rfl) (by rfl) (by rfl) K ?_
  refine G Z K<|o_appendp Z Z (Src.v _ _) okB_B (by simp [chunk]) (by simp) (by simp [chunk_length]; omega) K ?_
  exact S Z K<|o_nil<|h_ret<|ret1 rfl ⟨_, rfl, ⟨_, rfl⟩, rfl⟩

theorem cloneB_spec (l : List Blk) (hlen : l.length ≤ 1000000000) (f : Bool) : Fc Tryz.prog 127 [V (l.map encB) f] [] (fun r h' => (∃ f', r = V (l.map encB) f') ∧ h' = []) := by
  cases l with
  | nil => exact cloneB_nil f
  | cons x l => exact cloneB_cons x l (by simp at hlen; omega) f

theorem cloneI_spec (l : List Int) (hne : l ≠ []) (hlen : l.length ≤ 1000000000) (f : Bool) : Fc Tryz.prog 128 [V (l.map encI) f] [] (fun r h' => ∃ b c', l.length ≤ c' ∧ r = .os b 1 0 l.length c' ∧ h' = [(b, .arr 3 1 (l.map encI) c')]) := by
 refine fnE_intro (N := 8) Tryz.func128 rfl rfl rfl ?_
 intro X
 refine h_seq<|H<|S Z K<|o_nil<|h_seq<|h_seq<|H<|G Z K<|o_eqnil Z K fun b5 hbb5 => o_nil<|h_cond Z (fun c6 => ?_) (fun c6 => ?_)
 ·
  exact h_seq<|H<|S Z K<|o_nil<|h_ret<|absurd (hbb5 c6) (by simpa using hne)
 ·
  refine h_skip<|h_seq<|H<|o_buildSlicep Z (by rfl) (by rfl) (by rfl) (by rfl) K ?_
  refine G Z K<|o_appendv Z Z (Src.v _ _) okB_I (by simp [chunk]) (by have := List.length_pos_iff.2 hne; simpa using this) (by simp [chunk_length]; omega) K fun x7 c8 hc9 => ?_
  refine S Z K<|o_nil<|h_ret<|retS1 [_] rfl (.refl _) ⟨_, rfl, ?_⟩
  exact ⟨x7, c8, by simpa [chunk_length] using hc9, by simp [chunk_length], by simp [chunk]⟩

end Go.Proofs.YtnoicbajhlpndaaGreat
/- The walks of package merge: need; the greatest and the least of numbers. -/
namespace Go.Proofs.YtnoicbajhlpndaaGreat
open Go Go.RowKit Go.Shelf Hp
set_option maxRecDepth 10000
set_option maxHeartbeats 1000000
set_option linter.unusedVariables false
set_option linter.unusedSimpArgs false
attribute [local irreducible] WP WPs FnX IterX YdX RetP PanP Ch Back Join
/-- The value with which an impossible event ends. -/
abbrev impV : Value := .iface 189 (.agg #[])
abbrev impC : List PanicEntry := [{ v := impV, recovered := false }]

theorem need_spec (ok : Bool) : FnE Tryz.prog 119 [B ok] [] (fun E h' => h' = [] ∧ ((ok = true ∧ E = .ret (.tup [])) ∨ (ok = false ∧ E = .pan impC))) := by
 refine fnE_intro (N := 6) Tryz.func119 rfl rfl rfl ?_
 intro X
 refine h_seq<|H<|G Z K<|o_not Z K<|o_nil<|h_cond Z (fun c1 => ?_) (fun c1 => ?_)
 ·
  exact H<|o_build Z Z K<|o_iface0 Z K<|o_panic Z<|panK ⟨rfl, .inr ⟨(not_of c1), rfl⟩⟩
 ·
  exact h_skip<|retK0 ⟨rfl, .inl ⟨(not_of c1), rfl⟩⟩

section
variable {X : Ctx} {N : Nat} {r : Option Nat} {Q : Post} {ds : List Deferred} {a : Tmps} {h : AHeap} {ops : Array Oper} {rest : List Oper} {d : Tmp} {ty : TypeId} {pos : String} {aft : Array Edge}
/-- A step ends if something does not hold. -/
theorem o_need {g : Operand} {xs : Array Operand} {ats : Array TypeId} {ok : Bool} (hg : ev a g = some (.fn 119 [])) (hx : evs a xs.toList = some [B ok]) (hN : d < N)
    (ky : ok = true → WPs Tryz.prog X N r ops rest Q ds ((d, .tup []) :: a) h) (kn : ok = false → Q (.panic impC) ds a h) :
    WPs Tryz.prog X N r ops (⟨some d, .call { callee := .value g, args := xs, argTypes := ats }, ty, pos, aft, none⟩ :: rest) Q ds a h :=
  o_callE hg hx EntC.out hN (Split.none h) (need_spec ok) (fun v h' hr => by
    obtain ⟨rfl, ⟨h1, h2⟩ | ⟨h1, h2⟩⟩ := hr
    · cases h2; exact ky h1
    · cases h2) (fun c h' hr => by
    obtain ⟨rfl, ⟨h1, h2⟩ | ⟨h1, h2⟩⟩ := hr
    · cases h2
    · cases h2; exact kn h1)
end
def maxL : List Int → Int
  | [] => 0
  | x :: r => r.foldl max x
def minL : List Int → Int
  | [] => 0
  | x :: r => r.foldl min x
theorem foldl_succ {f : Int → Int → Int} {x : Int} {r : List Int} {j : Nat} (h : j < r.length) : (r.take (j + 1)).foldl f x = f ((r.take j).foldl f x) r[j] := by
  rw [List.take_add_one, List.getElem?_eq_getElem h, List.foldl_append]; rfl
theorem eltS {x : Int} {r : List Int} {j : Nat} (h : j < r.length) : ((x :: r).map encI)[((j : Int) + 1).toNat]? = some (encI r[j]) := by
  have e : ((j : Int) + 1).toNat = j + 1 := by omega
  rw [e]; simp [h]

theorem max_spec (x : Int) (r : List Int) (hlen : r.length ≤ 1000000000) (f : Bool) : Fn1 Tryz.prog 74 [V ((x :: r).map encI) f] (I (maxL (x :: r))) := by
 refine fnE_intro (N := 25) Tryz.func74 rfl rfl rfl ?_
 intro X
 refine h_seq<|H<|S Z K<|o_nil<|h_seq<|h_seq<|H<|G Z K<|o_len Z K<|o_cmp Z Z Z K<|o_nil<|h_condf Z (by simp; omega) ?_
 refine h_skip<|h_seq<|H<|G Z K<|o_idxv Z Z (by omega) rfl rfl K<|o_loadv Z Z K<|S Z K<|o_nil<|h_seq<|h_seq<|H<|S Z K ?_
 refine o_nil<|h_block<|h_famS (ι := {j : Nat // j ≤ r.length}) (fun i => [(0, V ((x :: r).map encI) f), (3, I ((r.take i.1).foldl max x)), (4, I ((i.1 : Nat) + 1 : Int))]) (fun i => []) (fun i => r.length - i.1) ⟨0, Nat.zero_le _⟩ (.refl _) (subT.cons Z (subT.cons Z (subT.cons Z subT.nil))) ?_
 rintro ⟨j, hj⟩
 by_cases hlt : j < r.length
 ·
  refine h_seq<|h_seq<|H<|G Z K<|G Z K<|o_len Z K<|o_cmp Z Z Z K<|o_nil<|h_condt Z (by simp; omega) ?_
  refine h_skip<|h_seq<|h_block<|H<|G Z K<|G Z K<|G Z K<|o_idxv Z Z (by omega) (eltS hlt) rfl K<|o_loadv Z Z K<|o_max Z Z K<|S Z K<|o_nil ?_
  refine H<|G Z K<|o_add Z Z (by unfold in64; (try dsimp only); omega) K ?_
  refine S Z K<|o_nil<|back rfl (⟨j + 1, hlt⟩ : {j : Nat // j ≤ r.length}) (by show r.length - (j + 1) < r.length - j; omega) (.refl _) (subT.cons Z (subT.cons (by rw [foldl_succ hlt]; rfl) (subT.cons Z subT.nil)))
 ·
  refine h_seq<|h_seq<|H<|G Z K<|G Z K<|o_len Z K<|o_cmp Z Z Z K<|o_nil<|h_condf Z (by simp; omega) ?_
  refine h_exit<|h_seq<|H<|G Z K<|S Z K<|o_nil<|h_ret ?_
  obtain rfl : j = r.length := by omega
  exact ret1' Z (I_eq (by simp [maxL, minL]))

theorem min_spec (x : Int) (r : List Int) (hlen : r.length ≤ 1000000000) (f : Bool) : Fn1 Tryz.prog 75 [V ((x :: r).map encI) f] (I (minL (x :: r))) := by
 refine fnE_intro (N := 25) Tryz.func75 rfl rfl rfl ?_
 intro X
 refine h_seq<|H<|S Z K<|o_nil<|h_seq<|h_seq<|H<|G Z K<|o_len Z K<|o_cmp Z Z Z K<|o_nil<|h_condf Z (by simp; omega) ?_
 refine h_skip<|h_seq<|H<|G Z K<|o_idxv Z Z (by omega) rfl rfl K<|o_loadv Z Z K<|S Z K<|o_nil<|h_seq<|h_seq<|H<|S Z K ?_
 refine o_nil<|h_block<|h_famS (ι := {j : Nat // j ≤ r.length}) (fun i => [(0, V ((x :: r).map encI) f), (3, I ((r.take i.1).foldl min x)), (4, I ((i.1 : Nat) + 1 : Int))]) (fun i => []) (fun i => r.length - i.1) ⟨0, Nat.zero_le _⟩ (.refl _) (subT.cons Z (subT.cons Z (subT.cons Z subT.nil))) ?_
 rintro ⟨j, hj⟩
 by_cases hlt : j < r.length
 ·
  refine h_seq<|h_seq<|H<|G Z K<|G Z K<|o_len Z K<|o_cmp Z Z Z K<|o_nil<|h_condt Z (by simp; omega) ?_
  refine h_skip<|h_seq<|h_block<|H<|G Z K<|G Z K<|G Z K<|o_idxv Z Z (by omega) (eltS hlt) rfl K<|o_loadv Z Z K<|o_min Z Z K<|S Z K<|o_nil ?_
  refine H<|G Z K<|o_add Z Z (by unfold in64; (try dsimp only); omega) K ?_
  refine S Z K<|o_nil<|back rfl (⟨j + 1, hlt⟩ : {j : Nat // j ≤ r.length}) (by show r.length - (j + 1) < r.length - j; omega) (.refl _) (subT.cons Z (subT.cons (by rw [foldl_succ hlt]; rfl) (subT.cons Z subT.nil)))
 ·
  refine h_seq<|h_seq<|H<|G Z K<|G Z K<|o_len Z K<|o_cmp Z Z Z K<|o_nil<|h_condf Z (by simp; omega) ?_
  refine h_exit<|h_seq<|H<|G Z K<|S Z K<|o_nil<|h_ret ?_
  obtain rfl : j = r.length := by omega
  exact ret1' Z (I_eq (by simp [maxL, minL]))

end Go.Proofs.YtnoicbajhlpndaaGreat
/- The walk of merge.Valid. -/
namespace Go.Proofs.YtnoicbajhlpndaaGreat
open Go Go.RowKit Go.Shelf Hp
set_option maxRecDepth 10000
set_option maxHeartbeats 1000000
set_option linter.unusedVariables false
set_option linter.unusedSimpArgs false
attribute [local irreducible] WP WPs FnX IterX YdX RetP PanP Ch Back Join
structure Wd where
  alive : Int
  ever : Int
  blocks : List Blk
  bal : List Int
  lev : List Int
abbrev encW (w : Wd) (f1 f2 f3 : Bool) : AV := .agg [I w.alive, I w.ever, V (w.blocks.map encB) f1, V (w.bal.map encI) f2, V (w.lev.map encI) f3]
abbrev cellsW (w : Wd) (f1 f2 f3 : Bool) : List AV := [I w.alive, I w.ever, V (w.blocks.map encB) f1, V (w.bal.map encI) f2, V (w.lev.map encI) f3]
def sumTo (w : Wd) : Nat → Int
  | 0 => 0
  | k + 1 => sumTo w k + w.bal.getD k 0
def lvsTo (w : Wd) : Nat → List Int
  | 0 => []
  | k + 1 => if hasC w.alive k then lvsTo w k ++ [w.lev.getD k 0] else lvsTo w k
def okAt (w : Wd) (k : Nat) : Bool := moneyOk (w.bal.getD k 0) && inM (w.lev.getD k 0) 0 9 && (hasC w.alive k || (decide (w.bal.getD k 0 = 0) && decide (w.lev.getD k 0 = 0)))
def deadAt (w : Wd) (k : Nat) : Bool := !hasC w.alive (w.blocks.getD k dB).c
def validW (w : Wd) : Bool :=
  inM w.ever 0 255 && decide (bits64 .and w.alive w.ever = w.alive) && decide (0 ≤ w.alive) && decide (w.bal.length = 8) && decide (w.lev.length = 8) && validB w.blocks && !(List.range w.blocks.length).any (deadAt w) &&
  (List.range 8).all (okAt w) && decide (sumTo w 8 = 0) && (decide ((lvsTo w 8).length = 0) || decide (maxL (lvsTo w 8) - minL (lvsTo w 8) ≤ 1))
theorem eltG {l : List Int} {k : Nat} (h : k < l.length) : (l.map encI)[(k : Int).toNat]? = some (encI (l.getD k 0)) := by simp [h]

theorem mvalid1_spec (w : Wd) (f1 f2 f3 : Bool) (b : Blk) (e : Nat) (h0 : 0 ≤ b.c) (h1 : b.c ≤ 63) : Fc Tryz.prog 71 [.agg [I b.f, I b.t, I b.c], .ptr e 0] [(e, .box 32 (cellsW w f1 f2 f3))] (fun r h' => r = B (!hasC w.alive b.c) ∧ h' = [(e, .box 32 (cellsW w f1 f2 f3))]) := by
 refine fnE_intro (N := 10) Tryz.func71 rfl rfl rfl ?_
 intro X
 refine h_seq<|H<|o_box Z Z K fun x1 => S Z K<|o_nil<|h_seq<|H<|F Z Z K K<|O 1 Z Z Z Z K<|F Z Z K K<|O 0 Z Z Z Z K ?_
 exact o_call1 Z Z EntC.out K (has_spec _ _ h0 h1)<|o_not Z K<|S Z K<|o_nil<|h_ret<|retS1 _ rfl (.cons _ (.refl _)) ⟨_, rfl, rfl, rfl⟩

theorem dead_hp (w : Wd) (f1 f2 f3 : Bool) (e : Nat) (hv : validB w.blocks = true) : ∀ k (hk : k < w.blocks.length), Fc Tryz.prog 71 ([.agg [I w.blocks[k].f, I w.blocks[k].t, I w.blocks[k].c]] ++ [.ptr e 0]) [(e, .box 32 (cellsW w f1 f2 f3))]
    (fun r h' => r = B (deadAt w k) ∧ h' = [(e, .box 32 (cellsW w f1 f2 f3))]) := fun k hk => by
  have hb := badB_range (valid_get hv hk)
  have e1 : w.blocks.getD k dB = w.blocks[k] := by simp [hk]
  have := mvalid1_spec w f1 f2 f3 w.blocks[k] e (by omega) (by omega)
  simp only [deadAt, e1]
  exact this
theorem money_of {n : Int} (h : moneyOk n = true) : -1000000000000 ≤ n ∧ n ≤ 1000000000000 := by
  simp [moneyOk, inM] at h; exact h
theorem sumTo_bound {w : Wd} : ∀ k, (∀ j, j < k → okAt w j = true) → -(k : Int) * 1000000000000 ≤ sumTo w k ∧ sumTo w k ≤ k * 1000000000000
  | 0, _ => by simp [sumTo]
  | k + 1, h => by
    have h1 := sumTo_bound k fun j hj => h j (by omega)
    have h2 := h k (by omega)
    simp only [okAt, Bool.and_eq_true] at h2
    have h3 := money_of h2.1.1
    simp only [sumTo]; omega
theorem lvs_len (w : Wd) : ∀ k, (lvsTo w k).length ≤ k
  | 0 => by simp [lvsTo]
  | k + 1 => by
    have := lvs_len w k
    simp only [lvsTo]; split <;> simp <;> omega
theorem lvs_bound {w : Wd} : ∀ k, (∀ j, j < k → okAt w j = true) → ∀ n ∈ lvsTo w k, 0 ≤ n ∧ n ≤ 9
  | 0, _ => by simp [lvsTo]
  | k + 1, h => by
    have h1 := lvs_bound k fun j hj => h j (by omega)
    have h2 := h k (by omega)
    simp only [okAt, Bool.and_eq_true, inM, decide_eq_true_eq] at h2
    intro n hn
    simp only [lvsTo] at hn
    split at hn
    · rcases List.mem_append.1 hn with h3 | h3
      · exact h1 n h3
      · simp only [List.mem_singleton] at h3; subst h3; exact h2.1.2
    · exact h1 n hn
theorem maxL_bound {l : List Int} {b : Int} (hne : l ≠ []) (h : ∀ n ∈ l, 0 ≤ n ∧ n ≤ b) : 0 ≤ maxL l ∧ maxL l ≤ b := by
  cases l with
  | nil => exact absurd rfl hne
  | cons x r =>
    simp only [maxL]
    have : ∀ (r : List Int) (x : Int), (0 ≤ x ∧ x ≤ b) → (∀ n ∈ r, 0 ≤ n ∧ n ≤ b) → 0 ≤ r.foldl max x ∧ r.foldl max x ≤ b := by
      intro r
      induction r with
      | nil => intro x hx _; exact hx
      | cons y r ih => intro x hx hr; have := hr y (by simp); exact ih (max x y) (by omega) fun n hn => hr n (by simp [hn])
    exact this r x (h x (by simp)) fun n hn => h n (by simp [hn])
theorem minL_bound {l : List Int} {b : Int} (hne : l ≠ []) (h : ∀ n ∈ l, 0 ≤ n ∧ n ≤ b) : 0 ≤ minL l ∧ minL l ≤ b := by
  cases l with
  | nil => exact absurd rfl hne
  | cons x r =>
    simp only [minL]
    have : ∀ (r : List Int) (x : Int), (0 ≤ x ∧ x ≤ b) → (∀ n ∈ r, 0 ≤ n ∧ n ≤ b) → 0 ≤ r.foldl min x ∧ r.foldl min x ≤ b := by
      intro r
      induction r with
      | nil => intro x hx _; exact hx
      | cons y r ih => intro x hx hr; have := hr y (by simp); exact ih (min x y) (by omega) fun n hn => hr n (by simp [hn])
    exact this r x (h x (by simp)) fun n hn => h n (by simp [hn])
theorem max_spec' (l : List Int) (hne : l ≠ []) (hlen : l.length ≤ 1000000000) (f : Bool) : Fn1 Tryz.prog 74 [V (l.map encI) f] (I (maxL l)) := by
  cases l with
  | nil => exact absurd rfl hne
  | cons x r => exact max_spec x r (by simp at hlen; omega) f
theorem min_spec' (l : List Int) (hne : l ≠ []) (hlen : l.length ≤ 1000000000) (f : Bool) : Fn1 Tryz.prog 75 [V (l.map encI) f] (I (minL l)) := by
  cases l with
  | nil => exact absurd rfl hne
  | cons x r => exact min_spec x r (by simp at hlen; omega) f

structure VParts (w : Wd) : Prop where
  ever : inM w.ever 0 255 = true
  sub : bits64 .and w.alive w.ever = w.alive
  pos : 0 ≤ w.alive
  lb : w.bal.length = 8
  ll : w.lev.length = 8
  blk : validB w.blocks = true
  dead : (List.range w.blocks.length).any (deadAt w) = false
  ok : ∀ j, j < 8 → okAt w j = true
  sum : sumTo w 8 = 0
  lv : (lvsTo w 8).length = 0 ∨ maxL (lvsTo w 8) - minL (lvsTo w 8) ≤ 1
theorem valid_iff (w : Wd) : validW w = true ↔ VParts w := by
  constructor
  · intro h
    simp only [validW, Bool.and_eq_true, Bool.or_eq_true, decide_eq_true_eq, Bool.not_eq_true', List.all_eq_true, List.mem_range] at h
    obtain ⟨⟨⟨⟨⟨⟨⟨⟨⟨h1, h2⟩, h3⟩, h4⟩, h5⟩, h6⟩, h7⟩, h8⟩, h9⟩, h10⟩ := h
    exact ⟨h1, h2, h3, h4, h5, h6, h7, h8, h9, h10⟩
  · rintro ⟨h1, h2, h3, h4, h5, h6, h7, h8, h9, h10⟩
    simp only [validW, Bool.and_eq_true, Bool.or_eq_true, decide_eq_true_eq, Bool.not_eq_true', List.all_eq_true, List.mem_range]
    exact ⟨⟨⟨⟨⟨⟨⟨⟨⟨h1, h2⟩, h3⟩, h4⟩, h5⟩, h6⟩, h7⟩, h8⟩, h9⟩, h10⟩
theorem not_valid {w : Wd} (h : ¬ VParts w) : false = validW w := by
  cases hv : validW w with
  | false => rfl
  | true => exact absurd ((valid_iff w).1 hv) h
theorem yes_valid {w : Wd} (h : VParts w) : true = validW w := ((valid_iff w).2 h).symm

/-- Rounds of the loop of Valid: no levels yet; some levels. -/
structure LvI (w : Wd) where
  k : Nat
  hk : k ≤ 8
  hok : ∀ j, j < k → okAt w j = true
  hl : lvsTo w k = []
structure LvJ (w : Wd) where
  k : Nat
  b : Nat
  c : Nat
  es : List (List PV)
  len : Nat
  hk : k ≤ 8
  hok : ∀ j, j < k → okAt w j = true
  he : es = (lvsTo w k).map encI
  hl : len = es.length
  hne : lvsTo w k ≠ []
  hc : len ≤ c
theorem ok_succ {w : Wd} {k : Nat} (hok : ∀ j, j < k → okAt w j = true) (h : okAt w k = true) : ∀ j, j < k + 1 → okAt w j = true := fun j hj => by
  rcases Nat.lt_succ_iff_lt_or_eq.1 hj with h1 | h1
  · exact hok j h1
  · subst h1; exact h

theorem mvalid_spec (w : Wd) (f1 f2 f3 : Bool) : Fn1 Tryz.prog 18 [encW w f1 f2 f3] (B (validW w)) := by
 refine fnE_intro (N := 118) Tryz.func18 rfl rfl rfl ?_
 intro X
 refine h_seq<|H<|o_box Z Z K fun x3 => S Z K<|o_nil<|h_seq<|h_seq<|H<|F Z Z K K<|O 0 Z Z Z Z K<|o_call1 Z Z EntC.out K (isIn_spec _ _ _)<|o_not Z K ?_
 refine G Z K<|o_guard Z Z K (fun g5 => ?_) (fun g5 => ?_)
 ·
  have g5 : _ = false := g5
  refine F Z Z K K<|W Z Z g5 K<|O 0 Z Z Z Z K<|W Z Z g5 K<|F Z Z K K<|W Z Z g5 K<|O 0 Z Z Z Z K<|W Z Z g5 K<|o_bits K rfl rfl K<|W Z Z g5 K<|F Z Z K K<|W Z Z g5 K ?_
  refine O 0 Z Z Z Z K<|W Z Z g5 K<|o_cmp Z Z Z K<|o_pickf Z g5 rfl K<|G Z K<|o_guard Z Z K (fun g7 => ?_) (fun g7 => ?_)
  ·
   have g7 : _ = false := g7
   refine F Z Z K K<|W Z Z g7 K<|O 0 Z Z Z Z K<|W Z Z g7 K<|o_cmp Z Z Z K<|o_pickf Z g7 rfl K<|G Z K<|o_guard Z Z K (fun g9 => ?_) (fun g9 => ?_)
   ·
    have g9 : _ = false := g9
    refine F Z Z K K<|W Z Z g9 K<|O 0 Z Z Z Z K<|W Z Z g9 K<|o_len Z K<|W Z Z g9 K<|o_cmp Z Z Z K<|o_pickf Z g9 rfl K<|G Z K<|o_guard Z Z K (fun g11 => ?_) (fun g11 => ?_)
    ·
     have g11 : _ = false := g11
     refine F Z Z K K<|W Z Z g11 K<|O 0 Z Z Z Z K<|W Z Z g11 K<|o_len Z K<|W Z Z g11 K<|o_cmp Z Z Z K<|o_pickf Z g11 rfl K<|G Z K<|o_guard Z Z K (fun g13 => ?_) (fun g13 => ?_)
     ·
      have g13 : _ = false := g13
      refine F Z Z K K<|W Z Z g13 K<|O 0 Z Z Z Z K<|W Z Z g13 K<|o_call1 Z Z EntC.out K (bvalid_spec _ _)<|W Z Z g13 K<|o_not Z K<|o_pickf Z g13 rfl K<|o_nil<|h_cond Z (fun c15 => ?_) (fun c15 => ?_)
      ·
       refine h_seq<|H<|S Z K<|o_nil<|h_ret<|ret1' Z (B_eq ?_)
       refine not_valid fun hp => ?_
       have e1 := hp.ever
       have e2 := hp.sub
       have e3 := hp.pos
       have e4 := hp.lb
       have e5 := hp.ll
       have e6 := hp.blk
       have e7 := hp.dead
       have e9 := hp.sum
       try have e8 := fun h : k < 8 => hp.ok k h
       (try simp only [okAt, Bool.and_eq_true, Bool.or_eq_true] at e8)
       first | (simp_all; done) | (simp_all; omega)
      ·
       refine h_skip<|h_seq<|h_seq<|H<|F Z Z K K<|O 0 Z Z Z Z K<|o_makeFunc Z K ?_
       have hvb : validB w.blocks = true := (not_of c15)
       refine o_callA Z Z EntC.out K (blkContains w.blocks (by have := valid_len hvb; omega) f1 71 [.ptr x3 0] (fun _ => [(x3, .box 32 (cellsW w f1 f2 f3))]) (deadAt w) (dead_hp w f1 f2 f3 x3 hvb)) fun v h' hr => ?_
       obtain ⟨rfl, rfl⟩ := hr
       refine o_nil<|h_cond Z (fun c17 => ?_) (fun c17 => ?_)
       ·
        refine h_seq<|H<|S Z K<|o_nil<|h_ret<|ret1' Z (B_eq ?_)
        refine not_valid fun hp => ?_
        have e1 := hp.ever
        have e2 := hp.sub
        have e3 := hp.pos
        have e4 := hp.lb
        have e5 := hp.ll
        have e6 := hp.blk
        have e7 := hp.dead
        have e9 := hp.sum
        try have e8 := fun h : k < 8 => hp.ok k h
        (try simp only [okAt, Bool.and_eq_true, Bool.or_eq_true] at e8)
        first | (simp_all; done) | (simp_all; omega)
       ·
        refine h_skip<|h_seq<|H<|S Z K<|o_nil<|h_seq<|H<|S Z K<|o_nil<|h_seq<|h_seq<|H ?_
        refine F Z Z K K<|O 0 Z Z Z Z K<|o_len Z K<|G Z K<|o_nil<|h_block ?_
        have hbal : w.bal.length = 8 := by have := g11; simp at this; omega
        have hlev : w.lev.length = 8 := by have := g13; simp at this; omega
        refine h_famS (ι := (LvI w) ⊕ (LvJ w)) (fun i => match i with | .inl i => [(1, .ptr x3 0), (3, I (sumTo w i.k)), (4, V [] true), (49, V (w.bal.map encI) f2), (50, I ((w.bal.map encI).length : Nat)), (51, I (i.k : Nat))] | .inr i => [(1, .ptr x3 0), (3, I (sumTo w i.k)), (4, .os i.b 1 0 i.len i.c), (49, V (w.bal.map encI) f2), (50, I ((w.bal.map encI).length : Nat)), (51, I (i.k : Nat))]) (fun i => match i with | .inl i => (x3, .box 32 (cellsW w f1 f2 f3)) :: [] | .inr i => (i.b, .arr 3 1 i.es i.c) :: (x3, .box 32 (cellsW w f1 f2 f3)) :: []) (fun i => match i with | .inl i => 8 - i.k | .inr i => 8 - i.k) (.inl ⟨0, by omega, by intro j hj; omega, rfl⟩) (.cons_cons _ (.refl _)) (subT.cons Z (subT.cons Z (subT.cons Z (subT.cons Z (subT.cons Z (subT.cons Z subT.nil)))))) ?_
        rintro (⟨k, hk, hok, hl⟩ | ⟨k, b, c, es, len, hk, hok, he, hl, hne, hc⟩)
        ·
         dsimp only
         by_cases hlt : k < 8
         ·
          have hsb := sumTo_bound k hok
          have hll := lvs_len w k
          refine h_seq<|H<|o_cmp Z Z Z K<|o_nil<|h_seq<|h_condt Z (by simp; omega) ?_
          refine h_skip<|h_seq<|h_block<|h_seq<|H<|G Z K<|o_idxv Z Z (by omega) (eltG (by omega)) rfl K<|o_loadv Z Z K<|S Z K<|S Z K<|o_nil<|h_seq ?_
          refine h_seq<|H<|G Z K<|o_call1 Z Z EntC.out K (isMoney_spec _)<|o_not Z K<|G Z K<|o_guard Z Z K (fun g20 => ?_) (fun g20 => ?_)
          ·
           have g20 : _ = false := g20
           refine F Z Z K K<|W Z Z g20 K<|O 0 Z Z Z Z K<|W Z Z g20 K<|G Z K<|W Z Z g20 K<|o_idxv Z Z (by omega) (eltG (by omega)) rfl K<|W Z Z g20 K<|o_loadv Z Z K<|W Z Z g20 K<|o_call1 Z Z EntC.out K (isIn_spec _ _ _)<|W Z Z g20 K ?_
           refine o_not Z K<|o_pickf Z g20 rfl K<|G Z K<|o_guard Z Z K (fun g22 => ?_) (fun g22 => ?_)
           ·
            have g22 : _ = false := g22
            refine F Z Z K K<|W Z Z g22 K<|O 0 Z Z Z Z K<|W Z Z g22 K<|G Z K<|W Z Z g22 K ?_
            refine o_call1 Z Z EntC.out K (has_spec _ _ (by omega) (by omega))<|W Z Z g22 K<|o_not Z K<|W Z Z g22 K<|G Z K<|o_guard Z Z K (fun g24 => ?_) (fun g24 => ?_)
            ·
             have g24 : _ = true := g24
             refine G Z K<|W Z Z g24 K<|o_cmp Z Z Z K<|W Z Z g24 K<|G Z K<|o_guard Z Z K (fun g26 => ?_) (fun g26 => ?_)
             ·
              have g26 : _ = false := g26
              refine F Z Z K K<|W Z Z g26 K<|O 0 Z Z Z Z K<|W Z Z g26 K<|G Z K<|W Z Z g26 K<|o_idxv Z Z (by omega) (eltG (by omega)) rfl K<|W Z Z g26 K<|o_loadv Z Z K<|W Z Z g26 K<|o_cmp Z Z Z K<|W Z Z g24 K ?_
              refine o_pickf Z g26 rfl K<|W Z Z g22 K<|o_pickt Z g24 rfl K<|o_pickf Z g22 rfl K<|o_nil<|h_cond Z (fun c28 => ?_) (fun c28 => ?_)
              ·
               refine h_seq<|H<|S Z K<|o_nil<|h_ret<|ret1' Z (B_eq ?_)
               refine not_valid fun hp => ?_
               have e1 := hp.ever
               have e2 := hp.sub
               have e3 := hp.pos
               have e4 := hp.lb
               have e5 := hp.ll
               have e6 := hp.blk
               have e7 := hp.dead
               have e9 := hp.sum
               try have e8 := fun h : k < 8 => hp.ok k h
               (try simp only [okAt, Bool.and_eq_true, Bool.or_eq_true] at e8)
               first | (simp_all; done) | (simp_all; omega)
              ·
               refine h_skip<|h_seq<|H<|G Z K<|G Z K<|o_add Z Z (by have hmo : moneyOk (w.bal.getD k 0) = true := (by simp_all); have := money_of hmo; unfold in64; (try dsimp only); omega) K ?_
               refine S Z K<|o_nil<|h_seq<|H<|F Z Z K K<|O 0 Z Z Z Z K<|G Z K ?_
               refine o_call1 Z Z EntC.out K (has_spec _ _ (by omega) (by omega))<|o_nil<|h_cond Z (fun c30 => ?_) (fun c30 => ?_)
               ·
                refine H<|G Z K<|F Z Z K K<|O 0 Z Z Z Z K<|G Z K<|o_idxv Z Z (by omega) (eltG (by omega)) rfl K<|o_loadv Z Z K<|o_buildSlicep Z (by rfl) (by rfl) (by rfl) (by rfl) K ?_
                refine o_appendv Z Z (Src.v _ _) (okB_one rfl) (by simp) (by first | decide | (rw [chunk_length]; omega)) (by simp [chunk_length]; try omega) K fun x31 c32 hc33 => ?_
                refine S Z K<|o_nil<|H<|o_add Z Z (by unfold in64; (try dsimp only); omega) K ?_
                refine G Z K<|o_nil ?_
                have hok1 : okAt w k = true := by simp only [okAt]; simp_all
                have hhas : hasC w.alive k = true := c30
                refine back rfl (.inr ⟨k + 1, x31, c32, _, _, hlt, (ok_succ hok hok1), (by simp [lvsTo, hhas, hl, encI, chunk]), rfl, (by simp [lvsTo, hhas]), (by simpa using hc33)⟩) (by dsimp only; omega) (.cons_cons _ (.cons_cons _ (.refl _))) (subT.cons Z (subT.cons Z (subT.cons Z (subT.cons Z (subT.cons Z (subT.cons Z subT.nil))))))
               ·
                refine h_skip<|H<|o_add Z Z (by unfold in64; (try dsimp only); omega) K ?_
                refine G Z K<|o_nil ?_
                have hok1 : okAt w k = true := by simp only [okAt]; simp_all
                have hhas : hasC w.alive k = false := c30
                refine back rfl (.inl ⟨k + 1, hlt, (ok_succ hok hok1), (by simp [lvsTo, hhas, hl])⟩) (by dsimp only; omega) (.cons_cons _ (.refl _)) (subT.cons Z (subT.cons Z (subT.cons Z (subT.cons Z (subT.cons Z (subT.cons Z subT.nil))))))
             ·
              have g26 : _ = true := g26
              refine U Z Z g26 K<|U Z Z g26 K<|U Z Z g26 K<|U Z Z g26 K<|U Z Z g26 K<|W Z Z g24 K<|o_pickt Z g26 rfl K<|W Z Z g22 K<|o_pickt Z g24 rfl K<|o_pickf Z g22 rfl K<|o_nil<|h_condt Z Z ?_
              refine h_seq<|H<|S Z K<|o_nil<|h_ret<|ret1' Z (B_eq ?_)
              refine not_valid fun hp => ?_
              have e1 := hp.ever
              have e2 := hp.sub
              have e3 := hp.pos
              have e4 := hp.lb
              have e5 := hp.ll
              have e6 := hp.blk
              have e7 := hp.dead
              have e9 := hp.sum
              try have e8 := fun h : k < 8 => hp.ok k h
              (try simp only [okAt, Bool.and_eq_true, Bool.or_eq_true] at e8)
              first | (simp_all; done) | (simp_all; omega)
            ·
             have g24 : _ = false := g24
             refine U Z Z g24 K<|U Z Z g24 K<|o_guardx Z Z K<|o_guardx Z Z K<|o_guardx Z Z K<|o_guardx Z Z K<|o_guardx Z Z K<|o_guardx Z Z K<|U Z Z g24 K<|W Z Z g22 K<|o_pickf Z g24 rfl K<|o_pickf Z g22 rfl K ?_
             refine o_nil<|h_condf Z Z<|h_skip<|h_seq<|H<|G Z K<|G Z K<|o_add Z Z (by have hmo : moneyOk (w.bal.getD k 0) = true := (by simp_all); have := money_of hmo; unfold in64; (try dsimp only); omega) K ?_
             refine S Z K<|o_nil<|h_seq<|H<|F Z Z K K<|O 0 Z Z Z Z K<|G Z K ?_
             refine o_call1 Z Z EntC.out K (has_spec _ _ (by omega) (by omega))<|o_nil<|h_cond Z (fun c35 => ?_) (fun c35 => ?_)
             ·
              refine H<|G Z K<|F Z Z K K<|O 0 Z Z Z Z K<|G Z K<|o_idxv Z Z (by omega) (eltG (by omega)) rfl K<|o_loadv Z Z K<|o_buildSlicep Z (by rfl) (by rfl) (by rfl) (by rfl) K ?_
              refine o_appendv Z Z (Src.v _ _) (okB_one rfl) (by simp) (by first | decide | (rw [chunk_length]; omega)) (by simp [chunk_length]; try omega) K fun x36 c37 hc38 => ?_
              refine S Z K<|o_nil<|H<|o_add Z Z (by unfold in64; (try dsimp only); omega) K ?_
              refine G Z K<|o_nil ?_
              have hok1 : okAt w k = true := by simp only [okAt]; simp_all
              have hhas : hasC w.alive k = true := c35
              refine back rfl (.inr ⟨k + 1, x36, c37, _, _, hlt, (ok_succ hok hok1), (by simp [lvsTo, hhas, hl, encI, chunk]), rfl, (by simp [lvsTo, hhas]), (by simpa using hc38)⟩) (by dsimp only; omega) (.cons_cons _ (.cons_cons _ (.refl _))) (subT.cons Z (subT.cons Z (subT.cons Z (subT.cons Z (subT.cons Z (subT.cons Z subT.nil))))))
             ·
              refine h_skip<|H<|o_add Z Z (by unfold in64; (try dsimp only); omega) K ?_
              refine G Z K<|o_nil ?_
              have hok1 : okAt w k = true := by simp only [okAt]; simp_all
              have hhas : hasC w.alive k = false := c35
              refine back rfl (.inl ⟨k + 1, hlt, (ok_succ hok hok1), (by simp [lvsTo, hhas, hl])⟩) (by dsimp only; omega) (.cons_cons _ (.refl _)) (subT.cons Z (subT.cons Z (subT.cons Z (subT.cons Z (subT.cons Z (subT.cons Z subT.nil))))))
           ·
            have g22 : _ = true := g22
            refine U Z Z g22 K<|U Z Z g22 K<|U Z Z g22 K<|U Z Z g22 K<|U Z Z g22 K<|o_guardx Z Z K<|o_guardx Z Z K<|o_guardx Z Z K<|o_guardx Z Z K<|o_guardx Z Z K<|o_guardx Z Z K<|o_guardx Z Z K ?_
            refine o_guardx Z Z K<|o_guardx Z Z K<|o_guardx Z Z K<|U Z Z g22 K<|o_pickt Z g22 rfl K<|o_nil<|h_condt Z Z<|h_seq<|H<|S Z K<|o_nil<|h_ret ?_
            refine ret1' Z (B_eq ?_)
            refine not_valid fun hp => ?_
            have e1 := hp.ever
            have e2 := hp.sub
            have e3 := hp.pos
            have e4 := hp.lb
            have e5 := hp.ll
            have e6 := hp.blk
            have e7 := hp.dead
            have e9 := hp.sum
            try have e8 := fun h : k < 8 => hp.ok k h
            (try simp only [okAt, Bool.and_eq_true, Bool.or_eq_true] at e8)
            first | (simp_all; done) | (simp_all; omega)
          ·
           have g20 : _ = true := g20
           refine U Z Z g20 K<|U Z Z g20 K<|U Z Z g20 K<|U Z Z g20 K<|U Z Z g20 K<|U Z Z g20 K<|o_pickt Z g20 rfl K<|G Z K<|U Z Z Z K<|U Z Z Z K<|U Z Z Z K<|U Z Z Z K ?_
           refine U Z Z Z K<|U Z Z Z K<|o_guardx Z Z K<|o_guardx Z Z K<|o_guardx Z Z K<|o_guardx Z Z K<|o_guardx Z Z K<|o_guardx Z Z K<|o_guardx Z Z K<|o_guardx Z Z K<|o_guardx Z Z K<|o_guardx Z Z K ?_
           refine U Z Z Z K<|o_pickt Z Z Z K<|o_nil<|h_condt Z Z<|h_seq<|H<|S Z K<|o_nil<|h_ret<|ret1' Z (B_eq ?_)
           refine not_valid fun hp => ?_
           have e1 := hp.ever
           have e2 := hp.sub
           have e3 := hp.pos
           have e4 := hp.lb
           have e5 := hp.ll
           have e6 := hp.blk
           have e7 := hp.dead
           have e9 := hp.sum
           try have e8 := fun h : k < 8 => hp.ok k h
           (try simp only [okAt, Bool.and_eq_true, Bool.or_eq_true] at e8)
           first | (simp_all; done) | (simp_all; omega)
         ·
          obtain rfl : k = 8 := by omega
          refine h_seq<|H<|o_cmp Z Z Z K<|o_nil<|h_seq<|h_condf Z (by simp; omega) ?_
          refine h_exit<|h_seq<|H<|G Z K<|o_cmp Z Z Z K<|G Z K<|o_guard Z Z K (fun g41 => ?_) (fun g41 => ?_)
          ·
           have g41 : _ = true := g41
           refine G Z K<|W Z Z g41 K<|o_len Z K<|W Z Z g41 K<|o_cmp Z Z Z K<|W Z Z g41 K<|G Z K<|U Z Z (by simp) K ?_
           refine U Z Z (by simp) K ?_
           refine U Z Z (by simp) K ?_
           refine U Z Z (by simp) K ?_
           refine U Z Z (by simp) K ?_
           refine U Z Z (by simp) K ?_
           refine W Z Z g41 K<|o_pickt Z (by simp) rfl K ?_
           refine o_pickt Z g41 rfl K<|S Z K<|o_nil<|h_ret<|ret1' Z (B_eq ?_)
           have e7 : (List.range w.blocks.length).any (deadAt w) = false := by assumption
           have e8 : sumTo w 8 = 0 := by simp_all
           simp only [Bool.not_eq_false', decide_eq_true_eq, decide_eq_false_iff_not] at *
           exact yes_valid ⟨by assumption, by assumption, by omega, hbal, hlev, hvb, e7, hok, e8, .inl (by rw [hl]; rfl)⟩
          ·
           have g41 : _ = false := g41
           refine U Z Z g41 K<|U Z Z g41 K<|U Z Z g41 K<|o_guardx Z Z K<|o_guardx Z Z K<|o_guardx Z Z K<|o_guardx Z Z K<|o_guardx Z Z K<|o_guardx Z Z K<|U Z Z g41 K<|o_pickf Z g41 rfl K<|S Z K ?_
           refine o_nil<|h_ret<|ret1' Z (B_eq ?_)
           refine not_valid fun hp => ?_
           have e1 := hp.ever
           have e2 := hp.sub
           have e3 := hp.pos
           have e4 := hp.lb
           have e5 := hp.ll
           have e6 := hp.blk
           have e7 := hp.dead
           have e9 := hp.sum
           try have e8 := fun h : k < 8 => hp.ok k h
           (try simp only [okAt, Bool.and_eq_true, Bool.or_eq_true] at e8)
           first | (simp_all; done) | (simp_all; omega)
        ·
         dsimp only
         subst he; subst hl
         by_cases hlt : k < 8
         ·
          have hsb := sumTo_bound k hok
          have hll := lvs_len w k
          refine h_seq<|H<|o_cmp Z Z Z K<|o_nil<|h_seq<|h_condt Z (by simp; omega) ?_
          refine h_skip<|h_seq<|h_block<|h_seq<|H<|G Z K<|o_idxv Z Z (by omega) (eltG (by omega)) rfl K<|o_loadv Z Z K<|S Z K<|S Z K<|o_nil<|h_seq ?_
          refine h_seq<|H<|G Z K<|o_call1 Z Z EntC.out K (isMoney_spec _)<|o_not Z K<|G Z K<|o_guard Z Z K (fun g45 => ?_) (fun g45 => ?_)
          ·
           have g45 : _ = false := g45
           refine F Z Z K K<|W Z Z g45 K<|O 1 Z Z Z Z K<|W Z Z g45 K<|G Z K<|W Z Z g45 K<|o_idxv Z Z (by omega) (eltG (by omega)) rfl K<|W Z Z g45 K<|o_loadv Z Z K<|W Z Z g45 K<|o_call1 Z Z EntC.out K (isIn_spec _ _ _)<|W Z Z g45 K ?_
           refine o_not Z K<|o_pickf Z g45 rfl K<|G Z K<|o_guard Z Z K (fun g47 => ?_) (fun g47 => ?_)
           ·
            have g47 : _ = false := g47
            refine F Z Z K K<|W Z Z g47 K<|O 1 Z Z Z Z K<|W Z Z g47 K<|G Z K<|W Z Z g47 K ?_
            refine o_call1 Z Z EntC.out K (has_spec _ _ (by omega) (by omega))<|W Z Z g47 K<|o_not Z K<|W Z Z g47 K<|G Z K<|o_guard Z Z K (fun g49 => ?_) (fun g49 => ?_)
            ·
             have g49 : _ = true := g49
             refine G Z K<|W Z Z g49 K<|o_cmp Z Z Z K<|W Z Z g49 K<|G Z K<|o_guard Z Z K (fun g51 => ?_) (fun g51 => ?_)
             ·
              have g51 : _ = false := g51
              refine F Z Z K K<|W Z Z g51 K<|O 1 Z Z Z Z K<|W Z Z g51 K<|G Z K<|W Z Z g51 K<|o_idxv Z Z (by omega) (eltG (by omega)) rfl K<|W Z Z g51 K<|o_loadv Z Z K<|W Z Z g51 K<|o_cmp Z Z Z K<|W Z Z g49 K ?_
              refine o_pickf Z g51 rfl K<|W Z Z g47 K<|o_pickt Z g49 rfl K<|o_pickf Z g47 rfl K<|o_nil<|h_cond Z (fun c53 => ?_) (fun c53 => ?_)
              ·
               refine h_seq<|H<|S Z K<|o_nil<|h_ret<|ret1' Z (B_eq ?_)
               refine not_valid fun hp => ?_
               have e1 := hp.ever
               have e2 := hp.sub
               have e3 := hp.pos
               have e4 := hp.lb
               have e5 := hp.ll
               have e6 := hp.blk
               have e7 := hp.dead
               have e9 := hp.sum
               try have e8 := fun h : k < 8 => hp.ok k h
               (try simp only [okAt, Bool.and_eq_true, Bool.or_eq_true] at e8)
               first | (simp_all; done) | (simp_all; omega)
              ·
               refine h_skip<|h_seq<|H<|G Z K<|G Z K<|o_add Z Z (by have hmo : moneyOk (w.bal.getD k 0) = true := (by simp_all); have := money_of hmo; unfold in64; (try dsimp only); omega) K ?_
               refine S Z K<|o_nil<|h_seq<|H<|F Z Z K K<|O 1 Z Z Z Z K<|G Z K ?_
               refine o_call1 Z Z EntC.out K (has_spec _ _ (by omega) (by omega))<|o_nil<|h_cond Z (fun c55 => ?_) (fun c55 => ?_)
               ·
                refine H<|G Z K<|F Z Z K K<|O 1 Z Z Z Z K<|G Z K<|o_idxv Z Z (by omega) (eltG (by omega)) rfl K<|o_loadv Z Z K<|o_buildSlicep Z (by rfl) (by rfl) (by rfl) (by rfl) K ?_
                refine o_append 0 Z Z Z (Src.v _ _) (okB_one rfl) (by simp) (by simp [chunk_length]; try omega) K fun x56 c57 hc58 => ?_
                refine S Z K<|o_nil<|H<|o_add Z Z (by unfold in64; (try dsimp only); omega) K ?_
                refine G Z K<|o_nil ?_
                have hok1 : okAt w k = true := by simp only [okAt]; simp_all
                have hhas : hasC w.alive k = true := c55
                refine back rfl (.inr ⟨k + 1, x56, c57, _, _, hlt, (ok_succ hok hok1), (by simp [lvsTo, hhas, encI, chunk]), (by simp), (by simp [lvsTo, hhas]), (by simpa using hc58)⟩) (by dsimp only; omega) (.cons_cons _ (.cons_cons _ (.refl _))) (subT.cons Z (subT.cons Z (subT.cons Z (subT.cons Z (subT.cons Z (subT.cons Z subT.nil))))))
               ·
                refine h_skip<|H<|o_add Z Z (by unfold in64; (try dsimp only); omega) K ?_
                refine G Z K<|o_nil ?_
                have hok1 : okAt w k = true := by simp only [okAt]; simp_all
                have hhas : hasC w.alive k = false := c55
                refine back rfl (.inr ⟨k + 1, b, c, _, _, hlt, (ok_succ hok hok1), (by simp [lvsTo, hhas]), rfl, (by simpa [lvsTo, hhas] using hne), hc⟩) (by dsimp only; omega) (.cons_cons _ (.cons_cons _ (.refl _))) (subT.cons Z (subT.cons Z (subT.cons Z (subT.cons Z (subT.cons Z (subT.cons Z subT.nil))))))
             ·
              have g51 : _ = true := g51
              refine U Z Z g51 K<|U Z Z g51 K<|U Z Z g51 K<|U Z Z g51 K<|U Z Z g51 K<|W Z Z g49 K<|o_pickt Z g51 rfl K<|W Z Z g47 K<|o_pickt Z g49 rfl K<|o_pickf Z g47 rfl K<|o_nil<|h_condt Z Z ?_
              refine h_seq<|H<|S Z K<|o_nil<|h_ret<|ret1' Z (B_eq ?_)
              refine not_valid fun hp => ?_
              have e1 := hp.ever
              have e2 := hp.sub
              have e3 := hp.pos
              have e4 := hp.lb
              have e5 := hp.ll
              have e6 := hp.blk
              have e7 := hp.dead
              have e9 := hp.sum
              try have e8 := fun h : k < 8 => hp.ok k h
              (try simp only [okAt, Bool.and_eq_true, Bool.or_eq_true] at e8)
              first | (simp_all; done) | (simp_all; omega)
            ·
             have g49 : _ = false := g49
             refine U Z Z g49 K<|U Z Z g49 K<|o_guardx Z Z K<|o_guardx Z Z K<|o_guardx Z Z K<|o_guardx Z Z K<|o_guardx Z Z K<|o_guardx Z Z K<|U Z Z g49 K<|W Z Z g47 K<|o_pickf Z g49 rfl K<|o_pickf Z g47 rfl K ?_
             refine o_nil<|h_condf Z Z<|h_skip<|h_seq<|H<|G Z K<|G Z K<|o_add Z Z (by have hmo : moneyOk (w.bal.getD k 0) = true := (by simp_all); have := money_of hmo; unfold in64; (try dsimp only); omega) K ?_
             refine S Z K<|o_nil<|h_seq<|H<|F Z Z K K<|O 1 Z Z Z Z K<|G Z K ?_
             refine o_call1 Z Z EntC.out K (has_spec _ _ (by omega) (by omega))<|o_nil<|h_cond Z (fun c60 => ?_) (fun c60 => ?_)
             ·
              refine H<|G Z K<|F Z Z K K<|O 1 Z Z Z Z K<|G Z K<|o_idxv Z Z (by omega) (eltG (by omega)) rfl K<|o_loadv Z Z K<|o_buildSlicep Z (by rfl) (by rfl) (by rfl) (by rfl) K ?_
              refine o_append 0 Z Z Z (Src.v _ _) (okB_one rfl) (by simp) (by simp [chunk_length]; try omega) K fun x61 c62 hc63 => ?_
              refine S Z K<|o_nil<|H<|o_add Z Z (by unfold in64; (try dsimp only); omega) K ?_
              refine G Z K<|o_nil ?_
              have hok1 : okAt w k = true := by simp only [okAt]; simp_all
              have hhas : hasC w.alive k = true := c60
              refine back rfl (.inr ⟨k + 1, x61, c62, _, _, hlt, (ok_succ hok hok1), (by simp [lvsTo, hhas, encI, chunk]), (by simp), (by simp [lvsTo, hhas]), (by simpa using hc63)⟩) (by dsimp only; omega) (.cons_cons _ (.cons_cons _ (.refl _))) (subT.cons Z (subT.cons Z (subT.cons Z (subT.cons Z (subT.cons Z (subT.cons Z subT.nil))))))
             ·
              refine h_skip<|H<|o_add Z Z (by unfold in64; (try dsimp only); omega) K ?_
              refine G Z K<|o_nil ?_
              have hok1 : okAt w k = true := by simp only [okAt]; simp_all
              have hhas : hasC w.alive k = false := c60
              refine back rfl (.inr ⟨k + 1, b, c, _, _, hlt, (ok_succ hok hok1), (by simp [lvsTo, hhas]), rfl, (by simpa [lvsTo, hhas] using hne), hc⟩) (by dsimp only; omega) (.cons_cons _ (.cons_cons _ (.refl _))) (subT.cons Z (subT.cons Z (subT.cons Z (subT.cons Z (subT.cons Z (subT.cons Z subT.nil))))))
           ·
            have g47 : _ = true := g47
            refine U Z Z g47 K<|U Z Z g47 K<|U Z Z g47 K<|U Z Z g47 K<|U Z Z g47 K<|o_guardx Z Z K<|o_guardx Z Z K<|o_guardx Z Z K<|o_guardx Z Z K<|o_guardx Z Z K<|o_guardx Z Z K<|o_guardx Z Z K ?_
            refine o_guardx Z Z K<|o_guardx Z Z K<|o_guardx Z Z K<|U Z Z g47 K<|o_pickt Z g47 rfl K<|o_nil<|h_condt Z Z<|h_seq<|H<|S Z K<|o_nil<|h_ret ?_
            refine ret1' Z (B_eq ?_)
            refine not_valid fun hp => ?_
            have e1 := hp.ever
            have e2 := hp.sub
            have e3 := hp.pos
            have e4 := hp.lb
            have e5 := hp.ll
            have e6 := hp.blk
            have e7 := hp.dead
            have e9 := hp.sum
            try have e8 := fun h : k < 8 => hp.ok k h
            (try simp only [okAt, Bool.and_eq_true, Bool.or_eq_true] at e8)
            first | (simp_all; done) | (simp_all; omega)
          ·
           have g45 : _ = true := g45
           refine U Z Z g45 K<|U Z Z g45 K<|U Z Z g45 K<|U Z Z g45 K<|U Z Z g45 K<|U Z Z g45 K<|o_pickt Z g45 rfl K<|G Z K<|U Z Z Z K<|U Z Z Z K<|U Z Z Z K<|U Z Z Z K ?_
           refine U Z Z Z K<|U Z Z Z K<|o_guardx Z Z K<|o_guardx Z Z K<|o_guardx Z Z K<|o_guardx Z Z K<|o_guardx Z Z K<|o_guardx Z Z K<|o_guardx Z Z K<|o_guardx Z Z K<|o_guardx Z Z K<|o_guardx Z Z K ?_
           refine U Z Z Z K<|o_pickt Z Z Z K<|o_nil<|h_condt Z Z<|h_seq<|H<|S Z K<|o_nil<|h_ret<|ret1' Z (B_eq ?_)
           refine not_valid fun hp => ?_
           have e1 := hp.ever
           have e2 := hp.sub
           have e3 := hp.pos
           have e4 := hp.lb
           have e5 := hp.ll
           have e6 := hp.blk
           have e7 := hp.dead
           have e9 := hp.sum
           try have e8 := fun h : k < 8 => hp.ok k h
           (try simp only [okAt, Bool.and_eq_true, Bool.or_eq_true] at e8)
           first | (simp_all; done) | (simp_all; omega)
         ·
          obtain rfl : k = 8 := by omega
          refine h_seq<|H<|o_cmp Z Z Z K<|o_nil<|h_seq<|h_condf Z (by simp; omega) ?_
          refine h_exit<|h_seq<|H<|G Z K<|o_cmp Z Z Z K<|G Z K<|o_guard Z Z K (fun g66 => ?_) (fun g66 => ?_)
          ·
           have g66 : _ = true := g66
           refine G Z K<|W Z Z g66 K<|o_leno Z K<|W Z Z g66 K<|o_cmp Z Z Z K<|W Z Z g66 K<|G Z K<|W Z Z (by simp; intro hx; exact hne (by simpa using hx)) K ?_
           refine o_freeze 0 4 rfl rfl (by simp) (by simpa using hc) ?_
           refine G Z K<|W Z Z (by simp; intro hx; exact hne (by simpa using hx)) K ?_
           refine o_call1 Z Z EntC.out K (max_spec' (lvsTo w 8) hne (by have := lvs_len w 8; omega) _) ?_
           refine W Z Z (by simp; intro hx; exact hne (by simpa using hx)) K ?_
           refine G Z K<|W Z Z (by simp; intro hx; exact hne (by simpa using hx)) K ?_
           refine o_call1 Z Z EntC.out K (min_spec' (lvsTo w 8) hne (by have := lvs_len w 8; omega) _) ?_
           refine W Z Z (by simp; intro hx; exact hne (by simpa using hx)) K ?_
           refine o_sub Z Z (by have h1 := maxL_bound hne (lvs_bound 8 hok); have h2 := minL_bound hne (lvs_bound 8 hok); unfold in64; omega) K ?_
           refine W Z Z (by simp; intro hx; exact hne (by simpa using hx)) K ?_
           refine o_cmp Z Z Z K<|W Z Z g66 K<|o_pickf Z (by simp; intro hx; exact hne (by simpa using hx)) rfl K ?_
           refine o_pickt Z g66 rfl K<|S Z K<|o_nil<|h_ret<|ret1' Z (B_eq ?_)
           have e7 : (List.range w.blocks.length).any (deadAt w) = false := by assumption
           have e8 : sumTo w 8 = 0 := by simp_all
           simp only [Bool.not_eq_false', decide_eq_true_eq, decide_eq_false_iff_not] at *
           rw [Bool.eq_iff_iff, valid_iff]; simp only [decide_eq_true_eq]
           exact ⟨fun h => ⟨by assumption, by assumption, by omega, hbal, hlev, hvb, e7, hok, e8, .inr h⟩, fun hp => hp.lv.resolve_left fun hx => hne (List.length_eq_zero_iff.1 hx)⟩
          ·
           have g66 : _ = false := g66
           refine U Z Z g66 K<|U Z Z g66 K<|U Z Z g66 K<|o_guardx Z Z K<|o_guardx Z Z K<|o_guardx Z Z K<|o_guardx Z Z K<|o_guardx Z Z K<|o_guardx Z Z K<|U Z Z g66 K<|o_pickf Z g66 rfl K<|S Z K ?_
           refine o_nil<|h_ret<|ret1' Z (B_eq ?_)
           refine not_valid fun hp => ?_
           have e1 := hp.ever
           have e2 := hp.sub
           have e3 := hp.pos
           have e4 := hp.lb
           have e5 := hp.ll
           have e6 := hp.blk
           have e7 := hp.dead
           have e9 := hp.sum
           try have e8 := fun h : k < 8 => hp.ok k h
           (try simp only [okAt, Bool.and_eq_true, Bool.or_eq_true] at e8)
           first | (simp_all; done) | (simp_all; omega)
     ·
      have g13 : _ = true := g13
      refine U Z Z g13 K<|U Z Z g13 K<|U Z Z g13 K<|o_pickt Z g13 rfl K<|o_nil<|h_condt Z Z<|h_seq<|H<|S Z K<|o_nil<|h_ret<|ret1' Z (B_eq ?_)
      refine not_valid fun hp => ?_
      have e1 := hp.ever
      have e2 := hp.sub
      have e3 := hp.pos
      have e4 := hp.lb
      have e5 := hp.ll
      have e6 := hp.blk
      have e7 := hp.dead
      have e9 := hp.sum
      try have e8 := fun h : k < 8 => hp.ok k h
      (try simp only [okAt, Bool.and_eq_true, Bool.or_eq_true] at e8)
      first | (simp_all; done) | (simp_all; omega)
    ·
     have g11 : _ = true := g11
     refine U Z Z g11 K<|U Z Z g11 K<|U Z Z g11 K<|o_pickt Z g11 rfl K<|G Z K<|U Z Z Z K<|U Z Z Z K<|U Z Z Z K<|U Z Z Z K<|o_pickt Z Z Z K<|o_nil<|h_condt Z Z ?_
     refine h_seq<|H<|S Z K<|o_nil<|h_ret<|ret1' Z (B_eq ?_)
     refine not_valid fun hp => ?_
     have e1 := hp.ever
     have e2 := hp.sub
     have e3 := hp.pos
     have e4 := hp.lb
     have e5 := hp.ll
     have e6 := hp.blk
     have e7 := hp.dead
     have e9 := hp.sum
     try have e8 := fun h : k < 8 => hp.ok k h
     (try simp only [okAt, Bool.and_eq_true, Bool.or_eq_true] at e8)
     first | (simp_all; done) | (simp_all; omega)
   ·
    have g9 : _ = true := g9
    refine U Z Z g9 K<|U Z Z g9 K<|U Z Z g9 K<|o_pickt Z g9 rfl K<|G Z K<|U Z Z Z K<|U Z Z Z K<|U Z Z Z K<|U Z Z Z K<|o_pickt Z Z Z K<|G Z K<|U Z Z Z K ?_
    refine U Z Z Z K<|U Z Z Z K<|U Z Z Z K<|o_pickt Z Z Z K<|o_nil<|h_condt Z Z<|h_seq<|H<|S Z K<|o_nil<|h_ret<|ret1' Z (B_eq ?_)
    refine not_valid fun hp => ?_
    have e1 := hp.ever
    have e2 := hp.sub
    have e3 := hp.pos
    have e4 := hp.lb
    have e5 := hp.ll
    have e6 := hp.blk
    have e7 := hp.dead
    have e9 := hp.sum
    try have e8 := fun h : k < 8 => hp.ok k h
    (try simp only [okAt, Bool.and_eq_true, Bool.or_eq_true] at e8)
    first | (simp_all; done) | (simp_all; omega)
  ·
   have g7 : _ = true := g7
   refine U Z Z g7 K<|U Z Z g7 K<|o_pickt Z g7 rfl K<|G Z K<|U Z Z Z K<|U Z Z Z K<|U Z Z Z K<|U Z Z Z K<|o_pickt Z Z Z K<|G Z K<|U Z Z Z K<|U Z Z Z K ?_
   refine U Z Z Z K<|U Z Z Z K<|o_pickt Z Z Z K<|G Z K<|U Z Z Z K<|U Z Z Z K<|U Z Z Z K<|U Z Z Z K<|o_pickt Z Z Z K<|o_nil<|h_condt Z Z<|h_seq ?_
   refine H<|S Z K<|o_nil<|h_ret<|ret1' Z (B_eq ?_)
   refine not_valid fun hp => ?_
   have e1 := hp.ever
   have e2 := hp.sub
   have e3 := hp.pos
   have e4 := hp.lb
   have e5 := hp.ll
   have e6 := hp.blk
   have e7 := hp.dead
   have e9 := hp.sum
   try have e8 := fun h : k < 8 => hp.ok k h
   (try simp only [okAt, Bool.and_eq_true, Bool.or_eq_true] at e8)
   first | (simp_all; done) | (simp_all; omega)
 ·
  have g5 : _ = true := g5
  refine U Z Z g5 K<|U Z Z g5 K<|U Z Z g5 K<|U Z Z g5 K<|U Z Z g5 K<|U Z Z g5 K<|U Z Z g5 K<|o_pickt Z g5 rfl K<|G Z K<|U Z Z Z K<|U Z Z Z K<|U Z Z Z K ?_
  refine o_pickt Z Z Z K<|G Z K<|U Z Z Z K<|U Z Z Z K<|U Z Z Z K<|U Z Z Z K<|o_pickt Z Z Z K<|G Z K<|U Z Z Z K<|U Z Z Z K<|U Z Z Z K<|U Z Z Z K ?_
  refine o_pickt Z Z Z K<|G Z K<|U Z Z Z K<|U Z Z Z K<|U Z Z Z K<|U Z Z Z K<|o_pickt Z Z Z K<|o_nil<|h_condt Z Z<|h_seq<|H<|S Z K ?_
  refine o_nil<|h_ret<|ret1' Z (B_eq ?_)
  refine not_valid fun hp => ?_
  have e1 := hp.ever
  have e2 := hp.sub
  have e3 := hp.pos
  have e4 := hp.lb
  have e5 := hp.ll
  have e6 := hp.blk
  have e7 := hp.dead
  have e9 := hp.sum
  try have e8 := fun h : k < 8 => hp.ok k h
  (try simp only [okAt, Bool.and_eq_true, Bool.or_eq_true] at e8)
  first | (simp_all; done) | (simp_all; omega)

end Go.Proofs.YtnoicbajhlpndaaGreat
/- The walks of package merge: copied, set, end. -/
namespace Go.Proofs.YtnoicbajhlpndaaGreat
open Go Go.RowKit Go.Shelf Hp
set_option maxRecDepth 10000
set_option maxHeartbeats 1000000
set_option linter.unusedVariables false
set_option linter.unusedSimpArgs false
attribute [local irreducible] WP WPs FnX IterX YdX RetP PanP Ch Back Join
/-- A world that is being changed, in memory: its box, and the arrays of its balances and levels. -/
abbrev WH (w : Wd) (f : Bool) (x b1 b2 c1 c2 : Nat) : AHeap := [(x, .box 197 [I w.alive, I w.ever, V (w.blocks.map encB) f, .os b1 1 0 8 c1, .os b2 1 0 8 c2]), (b1, .arr 3 1 (w.bal.map encI) c1), (b2, .arr 3 1 (w.lev.map encI) c2)]
theorem setEnc {l : List Int} {n : Nat} {v : Int} : (l.map encI).set n (setR (encI (l.getD n 0)) 0 [pI v]) = (l.set n v).map encI := by
  rw [List.map_set]; rfl
theorem eltW {l : List Int} {n : Int} (h : n.toNat < l.length) : (l.map encI)[0 + n.toNat]? = some (encI (l.getD n.toNat 0)) := by
  rw [Nat.zero_add]; simp [h]
def endW (w : Wd) (c : Int) : Wd := { w with alive := bits64 .andNot w.alive (1 * 2 ^ c.toNat), bal := w.bal.set c.toNat 0, lev := w.lev.set c.toNat 0 }
theorem pow_small {c : Int} (h0 : 0 ≤ c) (h7 : c ≤ 7) : in64 (1 * 2 ^ c.toNat) := by
  have : c = 0 ∨ c = 1 ∨ c = 2 ∨ c = 3 ∨ c = 4 ∨ c = 5 ∨ c = 6 ∨ c = 7 := by omega
  rcases this with rfl | rfl | rfl | rfl | rfl | rfl | rfl | rfl <;> (unfold in64; decide)

theorem copied_spec (w : Wd) (f1 f2 f3 : Bool) (hbl : w.blocks.length ≤ 1000000000) (hb : w.bal.length = 8) (hl : w.lev.length = 8) (hnb : w.bal ≠ []) (hnl : w.lev ≠ []) : Fc Tryz.prog 79 [encW w f1 f2 f3] []
  (fun r h' => ∃ f b1 b2 c1 c2, 8 ≤ c1 ∧ 8 ≤ c2 ∧ r = .agg [I w.alive, I w.ever, V (w.blocks.map encB) f, .os b1 1 0 8 c1, .os b2 1 0 8 c2] ∧ h' = [(b1, .arr 3 1 (w.bal.map encI) c1), (b2, .arr 3 1 (w.lev.map encI) c2)]) := by
 refine fnE_intro (N := 16) Tryz.func79 rfl rfl rfl ?_
 intro X
 refine h_seq<|H<|o_box Z Z K fun x1 => o_alloc K fun x2 => o_nil<|h_seq<|h_draw _ (.cons_cons _ (.cons _ (List.nil_sublist _))) [(0, .flo), (1, .val), (3, .flo), (4, .val), (6, .flo), (7, .val), (2, .new), (9, .flo), (5, .new), (8, .new), (10, .sto), (11, .flo), (12, .sto), (13, .flo), (14, .sto)] mixed (by kernel_rfl)<|C Z Z (fun jj => F Z Z K K jj)<|c_val Z Z (fun _ _ _ _ jj => O 1 Z Z Z Z K jj)<|C Z Z (fun jj => F Z Z K K jj)<|c_val Z Z (fun _ _ _ _ jj => O 1 Z Z Z Z K jj)<|C Z Z (fun jj => F Z Z K K jj) ?_
 refine c_val Z Z (fun _ _ _ _ jj => O 1 Z Z Z Z K jj)<|c_newG (ι := Bool) (fun f => V (w.blocks.map encB) f) (fun _ => []) rfl rfl (fun X r Q ds k => o_callA Z Z EntC.out K (cloneB_spec w.blocks hbl f1) fun v h' hr => by obtain ⟨⟨f', rfl⟩, rfl⟩ := hr; exact k f') fun fb => C Z Z (fun jj => F Z Z K K jj)<|c_newG (ι := {p : Nat × Nat // 8 ≤ p.2}) (fun p => .os p.1.1 1 0 8 p.1.2) (fun p => [(p.1.1, .arr 3 1 (w.bal.map encI) p.1.2)]) rfl rfl (fun X r Q ds k => o_callA Z Z EntC.out K (cloneI_spec w.bal hnb (by omega) f2) fun v h' hr => by obtain ⟨b, c', hc, rfl, rfl⟩ := hr; rw [hb] at hc ⊢; exact k ⟨(b, c'), hc⟩) fun pb => c_newG (ι := {p : Nat × Nat // 8 ≤ p.2}) (fun p => .os p.1.1 1 0 8 p.1.2) (fun p => [(p.1.1, .arr 3 1 (w.lev.map encI) p.1.2)]) rfl rfl (fun X r Q ds k => o_callA Z Z EntC.out K (cloneI_spec w.lev hnl (by omega) f3) fun v h' hr => by obtain ⟨b, c', hc, rfl, rfl⟩ := hr; rw [hl] at hc ⊢; exact k ⟨(b, c'), hc⟩) fun pl => ?_
 refine c_sto (.cons _ (.cons _ (.cons_cons _ (.cons _ (List.nil_sublist _))))) rfl rfl (fun _ _ _ _ jj => o_store 3 Z Z Z Z Z Z jj)<|C Z Z (fun jj => F Z Z K K jj) ?_
 refine c_sto (.cons _ (.cons _ (.cons_cons _ (.cons _ (List.nil_sublist _))))) rfl rfl (fun _ _ _ _ jj => o_store 3 Z Z Z Z Z Z jj)<|C Z Z (fun jj => F Z Z K K jj) ?_
 refine c_sto (.cons _ (.cons _ (.cons_cons _ (.cons _ (List.nil_sublist _))))) rfl rfl (fun _ _ _ _ jj => o_store 3 Z Z Z Z Z Z jj)<|c_nil<|h_seq<|H<|O 3 Z Z Z Z K ?_
 exact o_store 2 Z Z Z Z Z Z<|o_nil<|h_ret<|retGP [_, _] [_, _] (.cons (resC 2 rfl rfl rfl) .nil) (.swap _ _ _) (.cons_cons _ (.cons_cons _ (.cons _ (.cons _ (.refl _))))) ⟨_, rfl, fb, _, _, _, _, pb.2, pl.2, rfl, rfl⟩

theorem set_spec (w : Wd) (f : Bool) (x b1 b2 c1 c2 : Nat) (l : List Blk) (f' : Bool) (e : Int) : FnE Tryz.prog 200 [.ptr x 0, V (l.map encB) f', I e] (WH w f x b1 b2 c1 c2)
  (fun E h' => (e = 0 ∧ E = .ret (.tup []) ∧ h' = WH { w with blocks := l } f' x b1 b2 c1 c2) ∨ (e ≠ 0 ∧ E = .pan impC)) := by
 refine fnE_intro (N := 14) Tryz.func200 rfl rfl rfl ?_
 intro X
 refine h_seq<|H<|G Z K<|o_cmp Z Z Z K<|o_need Z Z K (fun hn8 => ?_) (fun hn8 => panK (.inr ⟨by simpa using hn8, rfl⟩))
 refine o_nil<|H<|G Z K<|G Z K<|o_nilp Z K<|F Z Z K K<|F Z Z K K ?_
 exact o_store 0 Z Z Z Z Z Z<|o_nil<|retK0 (.inl ⟨by simpa using hn8, rfl, rfl⟩)

theorem end_spec (w : Wd) (f : Bool) (x b1 b2 c1 c2 : Nat) (c : Int) (h0 : 0 ≤ c) (h7 : c ≤ 7) (hb : w.bal.length = 8) (hl : w.lev.length = 8) : Fc Tryz.prog 202 [.ptr x 0, I c] (WH w f x b1 b2 c1 c2)
  (fun r h' => r = .tup [] ∧ h' = WH (endW w c) f x b1 b2 c1 c2) := by
 refine fnE_intro (N := 29) Tryz.func202 rfl rfl rfl ?_
 intro X
 refine h_seq<|h_draw _ (List.nil_sublist _) [(0, .flo), (1, .flo), (2, .flo), (3, .flo), (4, .val), (5, .flo), (6, .flo), (7, .flo), (8, .flo), (9, .flo), (10, .flo), (11, .sto)] mixed (by kernel_rfl)<|C Z Z (fun jj => G Z K jj)<|C Z Z (fun jj => o_nilp Z K jj)<|C Z Z (fun jj => F Z Z K K jj)<|C Z Z (fun jj => F Z Z K K jj)<|c_val Z Z (fun _ _ _ _ jj => O 0 Z Z Z Z K jj)<|C Z Z (fun jj => G Z K jj)<|C Z Z (fun jj => o_shl Z Z (by omega) (by omega) (pow_small h0 h7) K jj)<|C Z Z (fun jj => o_bits K rfl rfl K jj)<|C Z Z (fun jj => o_nilp Z K jj)<|C Z Z (fun jj => F Z Z K K jj) ?_
 refine C Z Z (fun jj => F Z Z K K jj) ?_
 refine c_sto (List.nil_sublist _) rfl rfl (fun _ _ _ _ jj => o_store 0 Z Z Z Z Z Z jj)<|c_nil<|h_draw _ (.cons_cons _ (.cons _ (.cons _ (List.nil_sublist _)))) [(0, .flo), (1, .flo), (2, .flo), (3, .flo), (4, .box), (5, .flo), (6, .flo), (7, .flo), (8, .flo), (9, .flo), (10, .box), (11, .flo), (12, .flo), (13, .sto), (14, .flo), (15, .sto)] mixed (by kernel_rfl)<|C Z Z (fun jj => G Z K jj)<|C Z Z (fun jj => o_nilp Z K jj)<|C Z Z (fun jj => F Z Z K K jj)<|C Z Z (fun jj => F Z Z K K jj)<|c_box Z Z (fun _ _ _ _ jj => O 0 Z Z Z Z K jj)<|C Z Z (fun jj => G Z K jj)<|C Z Z (fun jj => G Z K jj)<|C Z Z (fun jj => o_nilp Z K jj)<|C Z Z (fun jj => F Z Z K K jj) ?_
 refine C Z Z (fun jj => F Z Z K K jj)<|c_box Z Z (fun _ _ _ _ jj => O 0 Z Z Z Z K jj)<|C Z Z (fun jj => G Z K jj)<|C Z Z (fun jj => o_idxo Z Z (by omega) (by omega) K jj) ?_
 refine c_sto (.cons_cons _ (.cons _ (.cons _ (List.nil_sublist _)))) rfl rfl (fun _ _ _ _ jj => o_storee 1 Z Z (eltW (by omega)) rfl rfl rfl rfl (by simp [encI]) jj) ?_
 refine C Z Z (fun jj => o_idxo Z Z (by omega) (by omega) K jj) ?_
 refine c_sto (.cons_cons _ (.cons _ (.cons _ (List.nil_sublist _)))) rfl rfl (fun _ _ _ _ jj => o_storee 2 Z Z (eltW (by omega)) rfl rfl rfl rfl (by simp [encI]) jj) ?_
 exact c_nil<|retK0 ⟨_, rfl, rfl, by simp only [WH, endW, Nat.zero_add, ← setEnc]; rfl⟩

end Go.Proofs.YtnoicbajhlpndaaGreat
