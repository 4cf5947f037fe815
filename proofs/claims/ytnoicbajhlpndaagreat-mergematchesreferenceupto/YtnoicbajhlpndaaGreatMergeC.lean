/- The walks of merge.Step, Run, isPossible. -/
import Derived.Test.YtnoicbajhlpndaaGreatMergeB
namespace Go.Proofs.YtnoicbajhlpndaaGreat
open Go Go.RowKit Go.Shelf Hp
set_option maxRecDepth 10000
set_option maxHeartbeats 1000000
set_option linter.unusedVariables false
set_option linter.unusedSimpArgs false
attribute [local irreducible] WP WPs FnX IterX YdX RetP PanP Ch Back Join
def wd0 : Wd := ⟨0, 0, [], [], []⟩
/-- What Step returns. -/
def stepM (w : Wd) (e : Ev) : Wd × Int := if validW w then match stepW w e with
  | some w' => (w', 0)
  | none => (wd0, 420)
  else (wd0, 420)
abbrev RW (p : Wd × Int) : AV → AHeap → Prop := fun r h' => h' = [] ∧ ∃ f1 f2 f3, r = .tup [encW p.1 f1 f2 f3, I p.2]

theorem mStep_spec (w : Wd) (e : Ev) (f1 f2 f3 : Bool) : Fc Tryz.prog 16 [encW w f1 f2 f3, encE e] [] (RW (stepM w e)) := by
 refine fnE_intro (N := 15) Tryz.func16 rfl rfl rfl ?_
 intro X
 refine h_seq<|H<|o_box Z Z K fun x1 => o_box Z Z K fun x2 => o_alloc K fun x3 => S Z K<|o_nil<|h_seq<|h_seq<|H<|O 2 Z Z Z Z K<|o_call1 Z Z EntC.out K (mvalid_spec w f1 f2 f3) ?_
 refine o_not Z K<|o_nil<|h_cond Z (fun c5 => ?_) (fun c5 => ?_)
 ·
  refine h_seq<|H<|o_build Z Z K ?_
  refine o_store 0 Z Z Z Z Z Z<|S Z K<|o_nil<|h_ret ?_
  have hq : stepM w e = (wd0, 420) := (by have : validW w = false := (by simp_all); simp only [stepM, this]; rfl)
  exact retG [] (.cons (resC 0 rfl rfl rfl) (.cons (resT rfl) .nil)) (List.nil_sublist _) ⟨_, rfl, rfl, true, true, true, by rw [hq]; rfl⟩
 ·
  refine h_skip<|h_seq<|H<|O 2 Z Z Z Z K<|O 1 Z Z Z Z K ?_
  have hvv : validW w = true := by simp_all
  have hvp := (valid_iff w).1 hvv
  refine o_callNE Z Z EntC.out K (step_spec w e f1 f2 f3 hvp (by have := valid_len hvp.blk; omega)) (fun v h' hr => ?_) (fun c h' hr => by obtain ⟨_, ⟨_, _, _, h2⟩ | ⟨_, h2⟩⟩ := hr <;> cases h2)
  obtain ⟨rfl, ⟨w', f, hs, h2⟩ | ⟨hs, h2⟩⟩ := hr
  ·
   cases h2
   refine o_extract Z Z K<|o_extract Z Z K ?_
   refine o_store 0 Z Z Z Z Z Z<|S Z K<|o_nil<|h_ret ?_
   have hq : stepM w e = (w', 0) := (by simp only [stepM, hvv, if_true, hs])
   exact retG [] (.cons (resC 0 rfl rfl rfl) (.cons (resT rfl) .nil)) (List.nil_sublist _) ⟨_, rfl, rfl, f, false, false, by rw [hq]; rfl⟩
  ·
   cases h2
   refine o_extract Z Z K<|o_extract Z Z K ?_
   refine o_store 0 Z Z Z Z Z Z<|S Z K<|o_nil<|h_ret ?_
   have hq : stepM w e = (wd0, 420) := (by simp only [stepM, hvv, if_true, hs])
   exact retG [] (.cons (resC 0 rfl rfl rfl) (.cons (resT rfl) .nil)) (List.nil_sublist _) ⟨_, rfl, rfl, true, true, true, by rw [hq]; rfl⟩

def cmpM (a b : Ev) : Int := if a.t < b.t then -1 else if b.t < a.t then 1 else 0
def dE : Ev := ⟨0, 0, 0, 0, 0, 0, 0, 0⟩
def encV (e : Ev) : List PV := [pI e.kind, pI e.t, pI e.a, pI e.b, pI e.c, pI e.f, pI e.to, pI e.m]
def badS (l : List Ev) (j : Nat) : Bool := decide ((l.getD (j + 1) dE).t < (l.getD j dE).t)
def sortedM (l : List Ev) : Bool := !(List.range (l.length - 1)).any (badS l)

theorem byTime_spec (a b : Ev) : Fn1 Tryz.prog 78 [encE a, encE b] (I (cmpM a b)) := by
 refine fnE_intro (N := 17) Tryz.func78 rfl rfl rfl ?_
 intro X
 refine h_seq<|H<|o_box Z Z K fun x6 => o_box Z Z K fun x7 => S Z K<|o_nil<|h_seq<|h_block<|h_seq<|H<|F Z Z K K<|O 1 Z Z Z Z K ?_
 refine F Z Z K K<|O 0 Z Z Z Z K<|o_cmp Z Z Z K<|S Z K<|o_nil<|h_cond Z (fun c9 => ?_) (fun c9 => ?_)
 ·
  exact h_seq<|H<|S Z K<|o_nil<|h_ret<|ret1' Z (I_eq (by unfold cmpM; simp_all <;> (try omega)))
 ·
  refine h_seq<|H<|F Z Z K K<|O 1 Z Z Z Z K<|F Z Z K K<|O 0 Z Z Z Z K<|o_cmp Z Z Z K<|S Z K<|o_nil<|h_cond Z (fun c11 => ?_) (fun c11 => ?_)
  ·
   exact h_seq<|H<|S Z K<|o_nil<|h_ret<|ret1' Z (I_eq (by unfold cmpM; simp_all <;> (try omega)))
  ·
   exact h_skip<|h_seq<|H<|S Z K<|o_nil<|h_ret<|ret1' Z (I_eq (by unfold cmpM; simp_all <;> (try omega)))

structure SoI (l : List Ev) where
  m : Nat
  hm : m ≤ l.length
  hok : ∀ j, m ≤ j + 1 → j + 1 < l.length → badS l j = false
theorem eltV {l : List Ev} {n : Int} (h : n.toNat < l.length) : (l.map encV)[n.toNat]? = some (encV (l.getD n.toNat dE)) := by simp [h]

theorem isSorted_spec (l : List Ev) (hlen : l.length ≤ 1000000000) (f : Bool) : Fn1 Tryz.prog 77 [V (l.map encV) f, .fn 78 []] (B (sortedM l)) := by
 refine fnE_intro (N := 25) Tryz.func77 rfl rfl rfl ?_
 intro X
 refine h_seq<|H<|S Z K<|o_nil<|h_seq<|h_seq<|H<|G Z K<|o_len Z K<|o_sub Z Z (by unfold in64; simp; omega) K ?_
 refine S Z K<|o_nil<|h_block<|h_famS (ι := SoI l) (fun i => [(0, V (l.map encV) f), (1, .fn 78 []), (5, I ((i.m : Nat) - 1 : Int))]) (fun i => []) (fun i => i.m) ⟨(l.map encV).length, by simp, fun j h1 h2 => by simp at h1; omega⟩ (.refl _) (subT.cons Z (subT.cons Z (subT.cons Z subT.nil))) ?_
 rintro ⟨m, hm, hok⟩
 dsimp only
 by_cases hlt : 2 ≤ m
 ·
  refine h_seq<|h_seq<|H<|G Z K<|o_cmp Z Z Z K<|o_nil<|h_condt Z (by simp; omega) ?_
  refine h_skip<|h_seq<|h_block<|h_seq<|h_draw _ (List.nil_sublist _) [(0, .flo), (1, .flo), (2, .flo), (3, .flo), (4, .val), (5, .flo), (6, .flo), (7, .flo), (8, .flo), (9, .val), (10, .bar), (11, .bar)] mixed (by kernel_rfl)<|C Z Z (fun jj => G Z K jj)<|C Z Z (fun jj => G Z K jj)<|C Z Z (fun jj => G Z K jj)<|C Z Z (fun jj => o_idxv Z Z (by omega) (eltV (by omega)) rfl K jj)<|c_val Z Z (fun _ _ _ _ jj => o_loadv Z Z K jj)<|C Z Z (fun jj => G Z K jj)<|C Z Z (fun jj => G Z K jj) ?_
  refine C Z Z (fun jj => o_sub Z Z (by unfold in64; (try dsimp only); omega) K jj) ?_
  refine C Z Z (fun jj => o_idxv Z Z (by omega) (eltV (by omega)) rfl K jj)<|c_val Z Z (fun _ _ _ _ jj => o_loadv Z Z K jj)<|c_bar<|o_call1 Z Z EntC.out K (byTime_spec (l.getD (((m : Nat) : Int) - 1).toNat dE) (l.getD (((m : Nat) : Int) - 1 - 1).toNat dE))<|o_cmp Z Z Z K<|o_nil<|h_cond Z (fun c14 => ?_) (fun c14 => ?_)
  ·
   refine h_seq<|H<|S Z K<|o_nil<|h_ret<|ret1' Z (B_eq ?_)
   have hx := c14
   have e1 : ((m : Nat) : Int) - 1 = ((m - 2 + 1 : Nat) : Int) := by omega
   have e2 : ((m : Nat) : Int) - 1 - 1 = ((m - 2 : Nat) : Int) := by omega
   rw [e2, e1] at hx
   simp only [Int.toNat_natCast, cmpM] at hx
   have hb : badS l (m - 2) = true := by simp only [badS, decide_eq_true_eq]; by_cases hc : (l.getD (m - 2 + 1) dE).t < (l.getD (m - 2) dE).t; exact hc; rw [if_neg hc] at hx; split at hx <;> simp at hx
   symm; simp only [sortedM, Bool.not_eq_false']; exact List.any_eq_true.2 ⟨m - 2, List.mem_range.2 (by omega), hb⟩
  ·
   refine h_skip<|H<|G Z K<|o_sub Z Z (by unfold in64; (try dsimp only); omega) K ?_
   refine S Z K<|o_nil ?_
   have hj : badS l (m - 2) = false := by
    have hx := c14
    have e1 : ((m : Nat) : Int) - 1 = ((m - 2 + 1 : Nat) : Int) := by omega
    have e2 : ((m : Nat) : Int) - 1 - 1 = ((m - 2 : Nat) : Int) := by omega
    rw [e2, e1] at hx
    simp only [Int.toNat_natCast, cmpM] at hx
    simp only [badS, decide_eq_false_iff_not]
    intro hc; rw [if_pos hc] at hx; simp at hx
   refine back rfl ⟨m - 1, by omega, fun j h1 h2 => by rcases Nat.lt_or_ge (j + 1) m with h3 | h3; obtain rfl : j = m - 2 := (by omega); exact hj; exact hok j h3 h2⟩ (by dsimp only; omega) (.refl _) (subT.cons Z (subT.cons Z (subT.cons (by dsimp only; rw [show (((m : Nat) : Int) - 1 - 1) = (((m - 1 : Nat)) : Int) - 1 from by omega]; rfl) subT.nil)))
 ·
  refine h_seq<|h_seq<|H<|G Z K<|o_cmp Z Z Z K<|o_nil<|h_condf Z (by simp; omega) ?_
  refine h_exit<|h_seq<|H<|S Z K<|o_nil<|h_ret<|ret1' Z (B_eq ?_)
  symm; simp only [sortedM, Bool.not_eq_true']; rw [List.any_eq_false]; intro j hj; have := List.mem_range.1 hj; rw [hok j (by omega) (by omega)]; simp

theorem frz5 {h h' : AHeap} {a0 a1 a2 a3 a4 d0 d1 d2 d3 d4 : AV} (h0 : FrzA h h' a0 d0) (h1 : FrzA h h' a1 d1) (h2 : FrzA h h' a2 d2) (h3 : FrzA h h' a3 d3) (h4 : FrzA h h' a4 d4) : FrzA h h' (.agg [a0, a1, a2, a3, a4]) (.agg [d0, d1, d2, d3, d4]) :=
  .agg _ _ rfl fun i c d hc hd => by
    match i with
    | 0 => cases hc; cases hd; exact h0
    | 1 => cases hc; cases hd; exact h1
    | 2 => cases hc; cases hd; exact h2
    | 3 => cases hc; cases hd; exact h3
    | 4 => cases hc; cases hd; exact h4
    | i + 5 => cases hc
def runL (w : Wd) : List Ev → Int → Wd × Int × Int
  | [], i => (w, i, 0)
  | e :: l, i => match stepW w e with
    | some w' => runL w' l (i + 1)
    | none => (wd0, i, 420)
def runM (w : Wd) (l : List Ev) : Wd × Int × Int := if !validW w || decide (20 < (l.length : Int)) || !sortedM l then (wd0, 0, 420) else runL w l 0
abbrev RunR (p : Wd × Int × Int) : AV → AHeap → Prop := fun r h' => h' = [] ∧ ∃ f1 f2 f3, r = .tup [encW p.1 f1 f2 f3, I p.2.1, I p.2.2]
structure RunI (w : Wd) (l : List Ev) where
  k : Nat
  wk : Wd
  f1 : Bool
  f2 : Bool
  f3 : Bool
  hk : k ≤ l.length
  hr : runL w l 0 = runL wk (l.drop k) k
  hv : VParts wk
theorem stepW_valid {w w' : Wd} {e : Ev} (h : stepW w e = some w') : validW w' = true := by
  unfold stepW at h
  split at h
  · cases h
  · split at h
    · cases h
    · split at h
      · cases h; assumption
      · cases h
theorem drop_k {l : List Ev} {k : Nat} (h : k < l.length) : l.drop k = l.getD k dE :: l.drop (k + 1) := by
  rw [List.drop_eq_getElem_cons h]; simp [h]

theorem copiedP_spec (w : Wd) (f1 f2 f3 : Bool) (hv : VParts w) : Fc Tryz.prog 79 [encW w f1 f2 f3] [] (fun r h' => ∃ f, r = encW w f false false ∧ h' = []) := by
 have hbl : w.blocks.length ≤ 1000000000 := (by have := valid_len hv.blk; omega); have hb := hv.lb; have hl := hv.ll; have hnb : w.bal ≠ [] := (by intro h0; simp [h0] at hb); have hnl : w.lev ≠ [] := (by intro h0; simp [h0] at hl); refine fnE_intro (N := 16) Tryz.func79 rfl rfl rfl ?_
 intro X
 refine h_seq<|H<|o_box Z Z K fun x16 => o_alloc K fun x17 => o_nil<|h_seq<|h_draw _ (.cons_cons _ (.cons _ (List.nil_sublist _))) [(0, .flo), (1, .val), (3, .flo), (4, .val), (6, .flo), (7, .val), (2, .new), (9, .flo), (5, .new), (8, .new), (10, .sto), (11, .flo), (12, .sto), (13, .flo), (14, .sto)] mixed (by kernel_rfl)<|C Z Z (fun jj => F Z Z K K jj)<|c_val Z Z (fun _ _ _ _ jj => O 1 Z Z Z Z K jj)<|C Z Z (fun jj => F Z Z K K jj)<|c_val Z Z (fun _ _ _ _ jj => O 1 Z Z Z Z K jj)<|C Z Z (fun jj => F Z Z K K jj) ?_
 refine c_val Z Z (fun _ _ _ _ jj => O 1 Z Z Z Z K jj)<|c_newG (ι := Bool) (fun f => V (w.blocks.map encB) f) (fun _ => []) rfl rfl (fun X r Q ds k => o_callA Z Z EntC.out K (cloneB_spec w.blocks hbl f1) fun v h' hr => by obtain ⟨⟨f', rfl⟩, rfl⟩ := hr; exact k f') fun fb => C Z Z (fun jj => F Z Z K K jj)<|c_newG (ι := {p : Nat × Nat // 8 ≤ p.2}) (fun p => .os p.1.1 1 0 8 p.1.2) (fun p => [(p.1.1, .arr 3 1 (w.bal.map encI) p.1.2)]) rfl rfl (fun X r Q ds k => o_callA Z Z EntC.out K (cloneI_spec w.bal hnb (by omega) f2) fun v h' hr => by obtain ⟨b, c', hc, rfl, rfl⟩ := hr; rw [hb] at hc ⊢; exact k ⟨(b, c'), hc⟩) fun pb => c_newG (ι := {p : Nat × Nat // 8 ≤ p.2}) (fun p => .os p.1.1 1 0 8 p.1.2) (fun p => [(p.1.1, .arr 3 1 (w.lev.map encI) p.1.2)]) rfl rfl (fun X r Q ds k => o_callA Z Z EntC.out K (cloneI_spec w.lev hnl (by omega) f3) fun v h' hr => by obtain ⟨b, c', hc, rfl, rfl⟩ := hr; rw [hl] at hc ⊢; exact k ⟨(b, c'), hc⟩) fun pl => ?_
 refine c_sto (.cons _ (.cons _ (.cons_cons _ (.cons _ (List.nil_sublist _))))) rfl rfl (fun _ _ _ _ jj => o_store 3 Z Z Z Z Z Z jj)<|C Z Z (fun jj => F Z Z K K jj) ?_
 refine c_sto (.cons _ (.cons _ (.cons_cons _ (.cons _ (List.nil_sublist _))))) rfl rfl (fun _ _ _ _ jj => o_store 3 Z Z Z Z Z Z jj)<|C Z Z (fun jj => F Z Z K K jj) ?_
 refine c_sto (.cons _ (.cons _ (.cons_cons _ (.cons _ (List.nil_sublist _))))) rfl rfl (fun _ _ _ _ jj => o_store 3 Z Z Z Z Z Z jj)<|c_nil<|h_seq<|H<|O 3 Z Z Z Z K ?_
 exact o_store 2 Z Z Z Z Z Z<|o_nil<|h_ret<|retF (.cons (resC 2 rfl rfl rfl) .nil) (frz5 (.refl _) (.refl _) (.refl _) (frz_os (List.mem_cons_of_mem _ List.mem_cons_self) (by simp [hb]) pb.2) (frz_os List.mem_cons_self (by simp [hl]) pl.2)) ⟨_, rfl, fb, rfl, rfl⟩

theorem run_spec (w : Wd) (l : List Ev) (hlen : l.length ≤ 1000000000) (f1 f2 f3 f : Bool) : Fc Tryz.prog 21 [encW w f1 f2 f3, V (l.map encV) f] [] (RunR (runM w l)) := by
 refine fnE_intro (N := 50) Tryz.func21 rfl rfl rfl ?_
 intro X
 refine h_seq<|H<|o_box Z Z K fun x18 => o_alloc K fun x19 => S Z K<|S Z K<|o_nil<|h_seq<|h_seq<|H<|O 1 Z Z Z Z K<|o_call1 Z Z EntC.out K (mvalid_spec w f1 f2 f3) ?_
 refine o_not Z K<|G Z K<|o_guard Z Z K (fun g21 => ?_) (fun g21 => ?_)
 ·
  have g21 : _ = false := g21
  refine G Z K<|W Z Z g21 K<|o_len Z K<|W Z Z g21 K<|o_cmp Z Z Z K<|o_pickf Z g21 rfl K<|G Z K<|o_guard Z Z K (fun g23 => ?_) (fun g23 => ?_)
  ·
   have g23 : _ = false := g23
   refine G Z K<|W Z Z g23 K<|o_call1 Z Z EntC.out K (isSorted_spec l hlen f)<|W Z Z g23 K<|o_not Z K<|o_pickf Z g23 rfl K<|o_nil<|h_cond Z (fun c25 => ?_) (fun c25 => ?_)
   ·
    refine h_seq<|H<|o_build Z Z K ?_
    refine o_store 0 Z Z Z Z Z Z<|S Z K<|S Z K<|o_nil<|h_ret ?_
    have hq : runM w l = (wd0, 0, 420) := (by simp only [runM]; rw [if_pos (by simp_all)])
    exact retG [] (.cons (resC 0 rfl rfl rfl) (.cons (resT rfl) (.cons (resT rfl) .nil))) (List.nil_sublist _) ⟨_, rfl, rfl, true, true, true, by rw [hq]; rfl⟩
   ·
    refine h_skip<|h_seq<|H<|O 1 Z Z Z Z K ?_
    have hvv : validW w = true := by simp_all
    have hvp := (valid_iff w).1 hvv
    refine o_callN Z Z EntC.out K (copiedP_spec w f1 f2 f3 hvp) fun v h' hr => ?_
    obtain ⟨fc, rfl, rfl⟩ := hr
    refine o_store 1 Z Z Z Z Z Z<|o_nil<|h_seq<|h_seq<|H<|G Z K<|o_len Z K<|G Z K<|o_nil<|h_block<|h_famS (ι := RunI w l) (fun i => [(1, V (l.map encV) f), (2, .ptr x18 0), (4, .ptr x19 0), (27, V (l.map encV) f), (28, I (((l.map encV).length : Nat) : Int)), (29, I (i.k : Nat))]) (fun i => (x19, .box 32 [I 0, I 0, V [] true, V [] true, V [] true]) :: (x18, .box 32 (cellsW i.wk i.f1 i.f2 i.f3)) :: []) (fun i => l.length - i.k) ⟨0, w, fc, false, false, Nat.zero_le _, rfl, hvp⟩ (.cons_cons _ (.cons_cons _ (.refl _))) (subT.cons Z (subT.cons Z (subT.cons Z (subT.cons Z (subT.cons Z (subT.cons Z subT.nil)))))) ?_
    rintro ⟨k, wk, g1, g2, g3, hk, hr, hv⟩
    dsimp only
    by_cases hlt : k < l.length
    ·
     refine h_seq<|H<|o_cmp Z Z Z K<|o_nil<|h_seq<|h_condt Z (by simp; omega) ?_
     refine h_skip<|h_seq<|h_block<|h_seq<|H<|G Z K<|o_idxv Z Z (by omega) (eltV (by simpa using hlt)) rfl K ?_
     refine o_loadv Z Z K<|o_alloc K fun x27 => S Z K ?_
     refine o_store 0 Z Z Z Z Z Z<|o_nil<|h_seq<|H<|O 2 Z Z Z Z K<|O 0 Z Z Z Z K<|o_callNE Z Z EntC.out K (step_spec wk (l.getD k dE) g1 g2 g3 hv (by have := valid_len hv.blk; omega)) (fun v h' hr => ?_) (fun c h' hr => by obtain ⟨_, ⟨_, _, _, h2⟩ | ⟨_, h2⟩⟩ := hr <;> cases h2)
     obtain ⟨rfl, ⟨w', f', hs, h2⟩ | ⟨hs, h2⟩⟩ := hr
     ·
      cases h2
      refine G Z K<|o_extract Z Z K<|o_extract Z Z K<|o_alloc K fun x28 => ?_
      refine o_store 0 Z Z Z Z Z Z<|S Z K<|o_nil<|h_seq<|h_seq<|H<|G Z K<|o_cmp Z Z Z K<|o_nil<|h_condf Z K<|h_skip<|H ?_
      refine O 0 Z Z Z Z K ?_
      refine o_store 3 Z Z Z Z Z Z<|o_nil<|H<|o_add Z Z (by unfold in64; (try dsimp only); omega) K ?_
      refine G Z K<|o_nil<|back rfl ⟨k + 1, w', f', false, false, hlt, (by rw [hr, drop_k hlt]; simp only [runL, hs]; rfl), (valid_iff w').1 (stepW_valid hs)⟩ (by dsimp only; omega) (.cons _ (.cons _ (.cons_cons _ (.cons_cons _ (.refl _))))) (subT.cons Z (subT.cons Z (subT.cons Z (subT.cons Z (subT.cons Z (subT.cons Z subT.nil))))))
     ·
      cases h2
      refine G Z K<|o_extract Z Z K<|o_extract Z Z K<|o_alloc K fun x30 => ?_
      refine o_store 0 Z Z Z Z Z Z<|S Z K<|o_nil<|h_seq<|h_seq<|H<|G Z K<|o_cmp Z Z Z K<|o_nil<|h_condt Z K<|h_seq<|H ?_
      refine o_build Z Z K<|G Z K<|G Z K ?_
      refine o_store 2 Z Z Z Z Z Z<|S Z K<|S Z K<|o_nil<|h_ret ?_
      have hq : runM w l = (wd0, (k : Int), 420) := (by simp only [runM]; rw [if_neg (by simp_all), hr, drop_k hlt]; simp only [runL, hs])
      exact retG [] (.cons (resC 2 rfl rfl rfl) (.cons (resT rfl) (.cons (resT rfl) .nil))) (List.nil_sublist _) ⟨_, rfl, rfl, true, true, true, by rw [hq]; rfl⟩
    ·
     obtain rfl : k = l.length := by omega
     refine h_seq<|H<|o_cmp Z Z Z K<|o_nil<|h_seq<|h_condf Z (by simp) ?_
     refine h_exit<|h_seq<|H<|O 1 Z Z Z Z K<|G Z K<|o_len Z K ?_
     refine o_store 0 Z Z Z Z Z Z<|S Z K<|S Z K<|o_nil<|h_ret ?_
     have hq : runM w l = (wk, ((l.length : Nat) : Int), 0) := (by simp only [runM]; rw [if_neg (by simp_all), hr, List.drop_length]; simp only [runL])
     rw [show ((l.length : Nat) : Int) = (((l.map encV).length : Nat) : Int) from by simp] at hq
     exact retG [] (.cons (resC 0 rfl rfl rfl) (.cons (resT rfl) (.cons (resT rfl) .nil))) (List.nil_sublist _) ⟨_, rfl, rfl, g1, g2, g3, by rw [hq]; rfl⟩
  ·
   have g23 : _ = true := g23
   refine U Z Z g23 K<|U Z Z g23 K<|o_pickt Z g23 rfl K<|o_nil<|h_condt Z Z<|h_seq<|H<|o_build Z Z K ?_
   refine o_store 0 Z Z Z Z Z Z<|S Z K<|S Z K<|o_nil<|h_ret ?_
   have hq : runM w l = (wd0, 0, 420) := (by simp only [runM]; rw [if_pos (by simp_all)])
   exact retG [] (.cons (resC 0 rfl rfl rfl) (.cons (resT rfl) (.cons (resT rfl) .nil))) (List.nil_sublist _) ⟨_, rfl, rfl, true, true, true, by rw [hq]; rfl⟩
 ·
  have g21 : _ = true := g21
  refine U Z Z g21 K<|U Z Z g21 K<|o_pickt Z g21 rfl K<|G Z K<|U Z Z Z K<|U Z Z Z K<|U Z Z Z K<|o_pickt Z Z Z K<|o_nil<|h_condt Z Z<|h_seq<|H ?_
  refine o_build Z Z K ?_
  refine o_store 0 Z Z Z Z Z Z<|S Z K<|S Z K<|o_nil<|h_ret ?_
  have hq : runM w l = (wd0, 0, 420) := (by simp only [runM]; rw [if_pos (by simp_all)])
  exact retG [] (.cons (resC 0 rfl rfl rfl) (.cons (resT rfl) (.cons (resT rfl) .nil))) (List.nil_sublist _) ⟨_, rfl, rfl, true, true, true, by rw [hq]; rfl⟩

theorem isPossible_spec (w : Wd) (l : List Ev) (t : Int) (hlen : l.length ≤ 1000000000) (f1 f2 f3 f : Bool) : Fn1 Tryz.prog 80 [encW w f1 f2 f3, V (l.map encV) f, I t] (B (decide ((runM w l).2.2 = 0) && inM t 0 20000000)) := by
 refine fnE_intro (N := 23) Tryz.func80 rfl rfl rfl ?_
 intro X
 refine h_seq<|H<|o_box Z Z K fun x33 => S Z K<|o_nil<|h_seq<|H<|O 0 Z Z Z Z K<|G Z K<|o_callN Z Z EntC.out K (run_spec w l hlen f1 f2 f3 f) fun v h' hr => ?_
 obtain ⟨rfl, r1, r2, r3, rfl⟩ := hr
 refine G Z K<|o_extract Z Z K<|o_extract Z Z K<|o_extract Z Z K<|o_alloc K fun x34 => ?_
 refine o_store 0 Z Z Z Z Z Z<|S Z K<|S Z K<|o_nil<|h_seq<|H<|G Z K<|o_cmp Z Z Z K<|G Z K<|o_guard Z Z K (fun g36 => ?_) (fun g36 => ?_)
 ·
  have g36 : _ = true := g36
  exact G Z K<|W Z Z g36 K<|o_call1 Z Z EntC.out K (isIn_spec _ _ _)<|o_pickt Z g36 rfl K<|S Z K<|o_nil<|h_ret<|ret1' Z (B_eq (by simp_all))
 ·
  have g36 : _ = false := g36
  exact U Z Z g36 K<|o_pickf Z g36 rfl K<|S Z K<|o_nil<|h_ret<|ret1' Z (B_eq (by simp_all))

end Go.Proofs.YtnoicbajhlpndaaGreat
/- The walks of merge.until, successor, Successor. -/
namespace Go.Proofs.YtnoicbajhlpndaaGreat
open Go Go.RowKit Go.Shelf Hp
set_option maxRecDepth 10000
set_option maxHeartbeats 1000000
set_option linter.unusedVariables false
set_option linter.unusedSimpArgs false
attribute [local irreducible] WP WPs FnX IterX YdX RetP PanP Ch Back Join
def untilM (l : List Ev) (t : Int) : List Ev := l.takeWhile fun e => decide (e.t ≤ t)
theorem tw_take {p : Ev → Bool} : ∀ (l : List Ev) (k : Nat), (∀ j, j < k → p (l.getD j dE) = true) → k ≤ l.length → (k = l.length ∨ p (l.getD k dE) = false) → l.takeWhile p = l.take k
  | [], k, _, hk, _ => by simp
  | e :: l, 0, _, _, h => by
    rcases h with h | h
    · simp at h
    · simp at h; simp [h]
  | e :: l, k + 1, ha, hk, h => by
    have h0 := ha 0 (by omega)
    simp at h0
    rw [List.takeWhile_cons, if_pos h0, List.take_succ_cons, tw_take l k (fun j hj => by have := ha (j + 1) (by omega); simpa using this) (by simpa using hk) (by simpa using h)]
theorem tw_get {p : Ev → Bool} : ∀ (l : List Ev) (k : Nat), k < l.length → (∀ j, j ≤ k → p (l.getD j dE) = true) → (l.takeWhile p)[k]? = some (l.getD k dE)
  | [], k, hk, _ => by simp at hk
  | e :: l, 0, _, h => by have h0 := h 0 (by omega); simp at h0; simp [h0]
  | e :: l, k + 1, hk, h => by
    have h0 := h 0 (by omega)
    simp at h0
    rw [List.takeWhile_cons, if_pos h0]
    have := tw_get l k (by simpa using hk) fun j hj => by have := h (j + 1) (by omega); simpa using this
    simpa using this
structure UnI (l : List Ev) (t : Int) (J : Nat → AHeap → Prop) where
  k : Nat
  hb : AHeap
  hk : k ≤ l.length
  hall : ∀ j, j < k → decide ((l.getD j dE).t ≤ t) = true
  hJ : J k hb
theorem all_succ {l : List Ev} {t : Int} {k : Nat} (h : ∀ j, j < k → decide ((l.getD j dE).t ≤ t) = true) (hk : decide ((l.getD k dE).t ≤ t) = true) : ∀ j, j < k + 1 → decide ((l.getD j dE).t ≤ t) = true := fun j hj => by
  rcases Nat.lt_succ_iff_lt_or_eq.1 hj with h1 | h1
  · exact h j h1
  · subst h1; exact hk

theorem until_spec (l : List Ev) (f : Bool) (t : Int) : Fc Tryz.prog 82 [V (l.map encV) f, I t] [] (fun r h' => ∃ e2 e3, r = .fn 130 [.ptr e2 0, .ptr e3 0] ∧ h' = [(e3, .box 3 [I t]), (e2, .box 25 [V (l.map encV) f])]) := by
 refine fnE_intro (N := 6) Tryz.func82 rfl rfl rfl ?_
 intro X
 refine h_seq<|H<|o_box Z Z K fun x1 => o_box Z Z K fun x2 => S Z K<|o_nil<|h_seq<|H<|o_makeFunc Z K<|S Z K<|o_nil<|h_ret ?_
 exact retS1 _ rfl (.refl _) ⟨_, rfl, _, _, rfl, rfl⟩

theorem until1_spec (l : List Ev) (hlen : l.length ≤ 1000000000) (f : Bool) (t : Int) (e2 e3 : Nat) (X : Ctx) : IterX Tryz.prog X 130 [.ptr e2 0, .ptr e3 0] [(e3, .box 3 [I t]), (e2, .box 25 [V (l.map encV) f])] ((untilM l t).map fun e => [encE e]) := by
 refine iterX_intro fun yl J Jx hB hy hJ => fnX_intro (N := 23) Tryz.func130 rfl rfl rfl ?_
 skip
 refine h_seq<|H<|O 1 Z Z Z Z K<|o_len Z K<|G Z K<|o_nil<|h_block<|h_famS (ι := UnI l t J) (fun i => [(0, .yl yl), (1, .ptr e2 0), (2, .ptr e3 0), (6, V (l.map encV) f), (7, I (((l.map encV).length : Nat) : Int)), (8, I (i.k : Nat))]) (fun i => (e3, .box 3 [I t]) :: (e2, .box 25 [V (l.map encV) f]) :: i.hb) (fun i => l.length - i.k) ⟨0, hB, Nat.zero_le _, fun j hj => by omega, hJ⟩ (.cons_cons _ (.cons_cons _ (.refl _))) (subT.cons Z (subT.cons Z (subT.cons Z (subT.cons Z (subT.cons Z (subT.cons Z subT.nil)))))) ?_
 rintro ⟨k, hb, hk, hall, hJ⟩
 dsimp only
 by_cases hlt : k < l.length
 ·
  refine h_seq<|H<|o_cmp Z Z Z K<|o_nil<|h_seq<|h_condt Z (by simp; omega) ?_
  refine h_skip<|h_seq<|h_block<|h_seq<|H<|o_idxv Z Z (by omega) (eltV (by simpa using hlt)) rfl K ?_
  refine o_loadv Z Z K<|o_alloc K fun x4 => ?_
  refine o_store 0 Z Z Z Z Z Z<|o_nil<|h_seq<|H<|F Z Z K K<|O 0 Z Z Z Z K<|O 1 Z Z Z Z K<|o_cmp Z Z Z K<|G Z K<|o_guard Z Z K (fun g6 => ?_) (fun g6 => ?_)
  ·
   have g6 : _ = false := g6
   refine G Z K<|W Z Z g6 K<|O 0 Z Z Z Z K<|W Z Z g6 K ?_
   have ht : decide ((l.getD k dE).t ≤ t) = true := by have := g6; simpa using this
   refine o_yieldR (h2 := [_, _, _]) rfl rfl rfl K (fun Y' hY => hy Y' hY k [encE (l.getD k dE)] hb (by rw [List.getElem?_map, untilM, tw_get l k (by simpa using hlt) (fun j hj => all_succ hall ht j (by omega))]; rfl) hJ) fun yb h' hr => ?_
   rcases hr with ⟨rfl, hJ'⟩ | ⟨rfl, hJ'⟩
   ·
    refine W Z Z g6 K<|o_not Z K<|o_pickf Z g6 rfl K<|o_nil<|h_condf Z Z<|h_skip<|H<|o_add Z Z (by unfold in64; (try dsimp only); omega) K ?_
    refine G Z K<|o_nil<|back rfl ⟨k + 1, h', (by omega), all_succ hall ht, hJ'⟩ (by dsimp only; omega) (.cons _ (.cons_cons _ (.cons_cons _ (.refl _)))) (subT.cons Z (subT.cons Z (subT.cons Z (subT.cons Z (subT.cons Z (subT.cons Z subT.nil))))))
   ·
    exact W Z Z g6 K<|o_not Z K<|o_pickf Z g6 rfl K<|o_nil<|h_condt Z Z<|h_ret<|retS0 h' (.cons _ (.cons _ (.cons _ (.refl _)))) ⟨rfl, .inr hJ'⟩
  ·
   have g6 : _ = true := g6
   refine U Z Z g6 K<|U Z Z g6 K<|U Z Z g6 K<|o_pickt Z g6 rfl K<|o_nil<|h_condt Z Z<|h_ret ?_
   have ht : decide ((l.getD k dE).t ≤ t) = false := by have := g6; simpa using this
   have hes : ((untilM l t).map fun e => [encE e]).length = k := by rw [untilM, tw_take l _ hall hk (.inr ht)]; simp; try omega
   exact retS0 hb (.cons _ (.cons _ (.cons _ (.refl _)))) ⟨rfl, .inl (hes ▸ hJ)⟩
 ·
  obtain rfl : k = l.length := by omega
  refine h_seq<|H<|o_cmp Z Z Z K<|o_nil<|h_seq<|h_condf Z (by simp) ?_
  refine h_exit ?_
  have hes : ((untilM l t).map fun e => [encE e]).length = l.length := by rw [untilM, tw_take l _ hall hk (.inl rfl)]; simp; try omega
  exact retS0 hb (.cons _ (.cons _ (.refl _))) ⟨rfl, .inl (hes ▸ hJ)⟩

def succE (n c : Int) (e : Ev) : Int :=
  if e.a ≠ c then c else if e.kind = 1 then e.b else if e.kind ≠ 4 ∧ inM n e.f (e.to - 1) = true then e.b else if e.kind = 3 then e.c else c
/-- The successor of a carrier for a number by events. -/
def succN (n : Int) (c : Int) (l : List Ev) : Int := l.foldl (succE n) c
theorem succN_take {n c : Int} {l : List Ev} {i : Nat} {e : Ev} (h : l[i]? = some e) : succN n c (l.take (i + 1)) = succE n (succN n c (l.take i)) e := by
  simp [succN, List.take_add_one, h, List.foldl_append]
theorem ev_get {l : List Ev} {i : Nat} {args : List AV} (h : (l.map fun e => [encE e])[i]? = some args) : ∃ e, l[i]? = some e ∧ args = [encE e] := by
  rw [List.getElem?_map] at h
  cases he : l[i]? with
  | none => rw [he] at h; cases h
  | some e => rw [he] at h; cases h; exact ⟨e, rfl, rfl⟩
theorem until_mem {l : List Ev} {t : Int} {e : Ev} (h : e ∈ untilM l t) : e ∈ l := List.takeWhile_sublist _ |>.subset h

theorem successor_spec (l : List Ev) (hlen : l.length ≤ 1000000000) (f : Bool) (c n t : Int) (hl : ∀ e ∈ l, -1000 ≤ e.to ∧ e.to ≤ 1000000000) : Fn1 Tryz.prog 92 [V (l.map encV) f, I c, I n, I t] (I (succN n c (untilM l t))) := by
  refine fnE_intro (N := 47) Tryz.func92 rfl rfl rfl ?_
  intro X
  refine h_seq<|H<|o_box Z Z K fun x8 => o_box Z Z K fun x9 => S Z K<|o_nil<|h_seq<|h_seq<|H<|G Z K<|G Z K<|o_callN Z Z EntC.out K (until_spec l f t) fun v h' hr => ?_
  obtain ⟨e2, e3, rfl, rfl⟩ := hr
  refine o_nil<|h_block<|h_rangeFunc Z EntC.out (Split.front [_, _] _) K (fun Y => until1_spec l hlen f t _ _ Y) (by intro args ha; obtain ⟨p, _, rfl⟩ := List.mem_map.1 ha; rfl) (fun i h1 => ([(x9, OB.box 3 [I n]), (x8, OB.box 3 [I (succN n c ((untilM l t).take i))])] : AHeap).Sublist h1) (fun _ _ => False) (by simp [succN]) ?_ ?_ (by intro c D h' hx; exact hx.elim)
  · intro Y yl i args h1 hget hs
    obtain ⟨e, he, rfl⟩ := ev_get hget
    have hto := hl e (until_mem (List.mem_of_getElem? he))
    refine h_sub _ hs<|H<|o_alloc K fun x10 => ?_
    refine o_store 0 Z Z Z Z Z Z<|o_nil<|h_block<|h_seq<|h_seq<|H<|F Z Z K K<|O 0 Z Z Z Z K<|O 2 Z Z Z Z K<|o_cmp Z Z Z K<|o_nil<|h_cond Z (fun c12 => ?_) (fun c12 => ?_)
    ·
      refine h_exit ?_
      have hse := succN_take (n := n) (c := c) he
      refine List.Sublist.trans (l₂ := [(x9, OB.box 3 [I n]), (x8, OB.box 3 [_])]) ?_ (.cons _ (.cons_cons _ (.cons_cons _ (.refl _))))
      rw [hse]; simp only [succE]; simp_all [ldA]
    ·
      refine h_skip<|h_seq<|H<|O 1 Z Z Z Z K<|F Z Z K K<|F Z Z K K<|O 0 Z Z Z Z K<|F Z Z K K<|F Z Z K K<|O 0 Z Z Z Z K<|o_sub Z Z (by unfold in64; (try dsimp only); omega) K ?_
      refine o_call1 Z Z EntC.out K (isIn_spec _ _ _)<|S Z K<|o_nil<|h_block<|h_seq<|h_seq<|H<|F Z Z K K<|O 0 Z Z Z Z K<|o_cmp Z Z Z K<|S Z K<|o_nil ?_
      refine h_cond Z (fun c15 => ?_) (fun c15 => ?_)
      ·
        refine h_skip<|h_condt Z c15<|H<|F Z Z K K<|O 0 Z Z Z Z K ?_
        refine o_store 2 Z Z Z Z Z Z<|o_nil ?_
        have hse := succN_take (n := n) (c := c) he
        refine List.Sublist.trans (l₂ := [(x9, OB.box 3 [I n]), (x8, OB.box 3 [_])]) ?_ (.cons _ (.cons_cons _ (.cons_cons _ (.refl _))))
        rw [hse]; simp only [succE]; simp_all [ldA]
      ·
        refine H<|F Z Z K K<|O 0 Z Z Z Z K<|o_cmp Z Z Z K<|G Z K<|o_guard Z Z K (fun g17 => ?_) (fun g17 => ?_)
        ·
          have g17 : _ = true := g17
          refine G Z K<|o_pickt Z g17 rfl K<|S Z K<|o_nil<|h_cond Z (fun c18 => ?_) (fun c18 => ?_)
          ·
            refine H<|F Z Z K K<|O 0 Z Z Z Z K ?_
            refine o_store 2 Z Z Z Z Z Z<|o_nil ?_
            have hse := succN_take (n := n) (c := c) he
            refine List.Sublist.trans (l₂ := [(x9, OB.box 3 [I n]), (x8, OB.box 3 [_])]) ?_ (.cons _ (.cons_cons _ (.cons_cons _ (.refl _))))
            rw [hse]; simp only [succE]; simp_all [ldA]
          ·
            refine h_seq<|H<|F Z Z K K<|O 0 Z Z Z Z K<|o_cmp Z Z Z K<|S Z K<|o_nil<|h_cond Z (fun c20 => ?_) (fun c20 => ?_)
            ·
              refine H<|F Z Z K K<|O 0 Z Z Z Z K ?_
              refine o_store 2 Z Z Z Z Z Z<|o_nil ?_
              have hse := succN_take (n := n) (c := c) he
              refine List.Sublist.trans (l₂ := [(x9, OB.box 3 [I n]), (x8, OB.box 3 [_])]) ?_ (.cons _ (.cons_cons _ (.cons_cons _ (.refl _))))
              rw [hse]; simp only [succE]; simp_all [ldA]
            ·
              refine h_skip ?_
              have hse := succN_take (n := n) (c := c) he
              refine List.Sublist.trans (l₂ := [(x9, OB.box 3 [I n]), (x8, OB.box 3 [_])]) ?_ (.cons _ (.cons_cons _ (.cons_cons _ (.refl _))))
              rw [hse]; simp only [succE]; simp_all [ldA]
        ·
          have g17 : _ = false := g17
          refine o_pickf Z g17 rfl K<|S Z K<|o_nil<|h_condf Z Z<|h_seq<|H<|F Z Z K K<|O 0 Z Z Z Z K<|o_cmp Z Z Z K<|S Z K<|o_nil<|h_cond Z (fun c22 => ?_) (fun c22 => ?_)
          ·
            refine H<|F Z Z K K<|O 0 Z Z Z Z K ?_
            refine o_store 2 Z Z Z Z Z Z<|o_nil ?_
            have hse := succN_take (n := n) (c := c) he
            refine List.Sublist.trans (l₂ := [(x9, OB.box 3 [I n]), (x8, OB.box 3 [_])]) ?_ (.cons _ (.cons_cons _ (.cons_cons _ (.refl _))))
            rw [hse]; simp only [succE]; simp_all [ldA]
          ·
            refine h_skip ?_
            have hse := succN_take (n := n) (c := c) he
            refine List.Sublist.trans (l₂ := [(x9, OB.box 3 [I n]), (x8, OB.box 3 [_])]) ?_ (.cons _ (.cons_cons _ (.cons_cons _ (.refl _))))
            rw [hse]; simp only [succE]; simp_all [ldA]
  · intro D h' hs
    rw [List.length_map, List.take_length] at hs
    exact h_sub _ (.cons_cons _ hs)<|h_seq<|H<|O 2 Z Z Z Z K<|S Z K<|o_nil<|h_ret<|retD1 [D] rfl (by simp) (by simp) rfl (.refl _) ⟨_, rfl, rfl, rfl⟩

end Go.Proofs.YtnoicbajhlpndaaGreat
/- The walks of merge.Successor, Claim. -/
namespace Go.Proofs.YtnoicbajhlpndaaGreat
open Go Go.RowKit Go.Shelf Hp
set_option maxRecDepth 10000
set_option maxHeartbeats 1000000
set_option linter.unusedVariables false
set_option linter.unusedSimpArgs false
attribute [local irreducible] WP WPs FnX IterX YdX RetP PanP Ch Back Join
theorem bare_to {e : Ev} (h : bareE e = true) : e.to = 0 := by simp [bareE] at h; exact h.1.2
theorem full_to {e : Ev} (h : fullE e = true) : 0 ≤ e.to ∧ e.to ≤ 100000000 := by simp [fullE] at h; omega
theorem do_to {w w' : Wd} {e : Ev} (h : doW w e = some w') : 0 ≤ e.to ∧ e.to ≤ 100000000 := by
  unfold doW mergeW splitW windW upW at h
  repeat' (first | (split at h) | (cases h; done))
  all_goals
    simp only [Bool.not_eq_false, Bool.and_eq_true] at *
    first
    | (have hb : bareE e = true := by simp_all
       have := bare_to hb; omega)
    | (have hb : fullE e = true := by simp_all
       have := full_to hb; omega)
theorem step_to {w w' : Wd} {e : Ev} (h : stepW w e = some w') : 0 ≤ e.to ∧ e.to ≤ 100000000 := by
  unfold stepW at h
  split at h
  · cases h
  · split at h
    · cases h
    · rename_i hd; exact do_to hd
theorem runL_to : ∀ {l : List Ev} {w : Wd} {i : Int}, (runL w l i).2.2 = 0 → ∀ e ∈ l, 0 ≤ e.to ∧ e.to ≤ 100000000
  | [], _, _, _, e, he => by cases he
  | x :: l, w, i, h, e, he => by
    simp only [runL] at h
    split at h
    · rename_i w' hs
      rcases List.mem_cons.1 he with rfl | he
      · exact step_to hs
      · exact runL_to h e he
    · cases h
theorem run_to {w : Wd} {l : List Ev} (h : (runM w l).2.2 = 0) : ∀ e ∈ l, -1000 ≤ e.to ∧ e.to ≤ 1000000000 := by
  unfold runM at h
  split at h
  · cases h
  · intro e he; have := runL_to h e he; omega
def possM (w : Wd) (l : List Ev) (t : Int) : Bool := decide ((runM w l).2.2 = 0) && inM t 0 20000000
theorem poss_to {w : Wd} {l : List Ev} {t : Int} (h : (decide ((runM w l).2.2 = 0) && inM t 0 20000000) = true) : ∀ e ∈ l, -1000 ≤ e.to ∧ e.to ≤ 1000000000 := by
  simp only [Bool.and_eq_true, decide_eq_true_eq] at h; exact run_to h.1
def succM (w : Wd) (l : List Ev) (c n t : Int) : Int × Int := if !possM w l t || !carOk c || !inM n 0 99999999 then (0, 420) else (succN n c (untilM l t), 0)
structure Cl where
  num : Int
  fr : Int
  to : Int
  hold : Int
  ask : Int
  back : Bool
  deriving DecidableEq
abbrev encC (c : Cl) : AV := .agg [I c.num, I c.fr, I c.to, I c.hold, I c.ask, B c.back]
def claimM (w : Wd) (l : List Ev) (c : Cl) (t : Int) : Cl × Bool :=
  if (possM w l t && carOk c.fr && carOk c.to && inM c.num 0 99999999) = false then (⟨0, 0, 0, 0, 0, false⟩, false) else
  if succN c.num c.fr (untilM l t) = succN c.num c.to (untilM l t) then (⟨0, 0, 0, 0, 0, false⟩, false) else
  ({ c with fr := succN c.num c.fr (untilM l t), to := succN c.num c.to (untilM l t) }, true)

theorem succ_spec (w : Wd) (l : List Ev) (hlen : l.length ≤ 1000000000) (f1 f2 f3 f : Bool) (c n t : Int) : Fn1 Tryz.prog 29 [encW w f1 f2 f3, V (l.map encV) f, I c, I n, I t] (.tup [I (succM w l c n t).1, I (succM w l c n t).2]) := by
 refine fnE_intro (N := 32) Tryz.func29 rfl rfl rfl ?_
 intro X
 refine h_seq<|H<|o_box Z Z K fun x1 => S Z K<|S Z K<|o_nil<|h_seq<|h_seq<|H<|O 0 Z Z Z Z K<|G Z K<|G Z K ?_
 refine o_call1 Z Z EntC.out K (isPossible_spec w l t hlen f1 f2 f3 f)<|o_not Z K<|G Z K<|o_guard Z Z K (fun g3 => ?_) (fun g3 => ?_)
 ·
  have g3 : _ = false := g3
  refine G Z K<|W Z Z g3 K<|o_call1 Z Z EntC.out K (misCarrier_spec _)<|W Z Z g3 K<|o_not Z K<|o_pickf Z g3 rfl K<|G Z K<|o_guard Z Z K (fun g5 => ?_) (fun g5 => ?_)
  ·
   have g5 : _ = false := g5
   refine G Z K<|W Z Z g5 K<|o_call1 Z Z EntC.out K (isIn_spec _ _ _)<|W Z Z g5 K<|o_not Z K<|o_pickf Z g5 rfl K<|o_nil<|h_cond Z (fun c7 => ?_) (fun c7 => ?_)
   ·
    refine h_seq<|H<|S Z K<|S Z K<|o_nil<|h_ret<|ret2' Z Z ?_
    simp only [succM, possM]; simp_all [cav_int]; try rfl
   ·
    refine h_skip<|h_seq<|H<|G Z K<|G Z K<|G Z K<|G Z K<|o_call1 Z Z EntC.out K (successor_spec l hlen _ _ _ _ (poss_to (w := w) (t := t) (by simp_all))) ?_
    refine S Z K<|S Z K<|o_nil<|h_ret<|ret2' Z Z ?_
    simp only [succM, possM]; simp_all [cav_int]; try rfl
  ·
   have g5 : _ = true := g5
   refine U Z Z g5 K<|U Z Z g5 K<|o_pickt Z g5 rfl K<|o_nil<|h_condt Z Z<|h_seq<|H<|S Z K<|S Z K<|o_nil<|h_ret<|ret2' Z Z ?_
   simp only [succM, possM]; simp_all [cav_int]; try rfl
 ·
  have g3 : _ = true := g3
  refine U Z Z g3 K<|U Z Z g3 K<|o_pickt Z g3 rfl K<|G Z K<|U Z Z Z K<|U Z Z Z K<|U Z Z Z K<|o_pickt Z Z Z K<|o_nil<|h_condt Z Z<|h_seq<|H ?_
  refine S Z K<|S Z K<|o_nil<|h_ret<|ret2' Z Z ?_
  simp only [succM, possM]; simp_all [cav_int]; try rfl

theorem claim_spec (w : Wd) (l : List Ev) (hlen : l.length ≤ 1000000000) (f1 f2 f3 f : Bool) (c : Cl) (t : Int) : Fn1 Tryz.prog 40 [encW w f1 f2 f3, V (l.map encV) f, encC c, I t] (.tup [encC (claimM w l c t).1, B (claimM w l c t).2]) := by
 refine fnE_intro (N := 57) Tryz.func40 rfl rfl rfl ?_
 intro X
 refine h_seq<|H<|o_box Z Z K fun x8 => o_box Z Z K fun x9 => o_alloc K fun x10 => S Z K<|o_nil<|h_seq<|h_seq<|H<|O 2 Z Z Z Z K<|G Z K ?_
 refine G Z K<|o_call1 Z Z EntC.out K (isPossible_spec w l t hlen f1 f2 f3 f)<|o_not Z K<|G Z K<|o_guard Z Z K (fun g12 => ?_) (fun g12 => ?_)
 ·
  have g12 : _ = false := g12
  refine F Z Z K K<|W Z Z g12 K<|O 1 Z Z Z Z K<|W Z Z g12 K<|o_call1 Z Z EntC.out K (misCarrier_spec _)<|W Z Z g12 K<|o_not Z K<|o_pickf Z g12 rfl K<|G Z K<|o_guard Z Z K (fun g14 => ?_) (fun g14 => ?_)
  ·
   have g14 : _ = false := g14
   refine F Z Z K K<|W Z Z g14 K<|O 1 Z Z Z Z K<|W Z Z g14 K<|o_call1 Z Z EntC.out K (misCarrier_spec _)<|W Z Z g14 K<|o_not Z K<|o_pickf Z g14 rfl K<|G Z K<|o_guard Z Z K (fun g16 => ?_) (fun g16 => ?_)
   ·
    have g16 : _ = false := g16
    refine F Z Z K K<|W Z Z g16 K<|O 1 Z Z Z Z K<|W Z Z g16 K<|o_call1 Z Z EntC.out K (isIn_spec _ _ _)<|W Z Z g16 K<|o_not Z K<|o_pickf Z g16 rfl K<|o_nil<|h_cond Z (fun c18 => ?_) (fun c18 => ?_)
    ·
     refine h_seq<|H<|o_build Z Z K ?_
     refine o_store 0 Z Z Z Z Z Z<|S Z K<|o_nil<|h_ret ?_
     have hq : claimM w l c t = (⟨0, 0, 0, 0, 0, false⟩, false) := (by unfold claimM; rw [if_pos (c := (possM w l t && carOk c.fr && carOk c.to && inM c.num 0 99999999) = false) (by simp only [possM]; first | (simp_all; done) | (simp_all; intro h1 h2; simp_all))])
     exact retG [] (.cons (resC 0 rfl rfl rfl) (.cons (resT rfl) .nil)) (List.nil_sublist _) ⟨_, rfl, by rw [hq]; rfl, rfl⟩
    ·
     refine h_skip<|h_seq<|h_draw _ (.cons_cons _ (.cons _ (.cons_cons _ (List.nil_sublist _)))) [(0, .flo), (1, .flo), (2, .val), (3, .flo), (4, .val), (5, .flo), (6, .flo), (7, .flo), (8, .flo), (9, .val), (10, .flo), (11, .val), (12, .flo), (13, .flo), (14, .flo), (15, .sto), (16, .flo), (17, .sto)] mixed (by kernel_rfl)<|C Z Z (fun jj => G Z K jj)<|C Z Z (fun jj => F Z Z K K jj)<|c_val Z Z (fun _ _ _ _ jj => O 1 Z Z Z Z K jj)<|C Z Z (fun jj => F Z Z K K jj)<|c_val Z Z (fun _ _ _ _ jj => O 1 Z Z Z Z K jj)<|C Z Z (fun jj => G Z K jj)<|C Z Z (fun jj => o_call1 Z Z EntC.out K (successor_spec l hlen _ _ _ _ (poss_to (w := w) (t := t) (by simp_all))) jj) ?_
     refine C Z Z (fun jj => G Z K jj)<|C Z Z (fun jj => F Z Z K K jj)<|c_val Z Z (fun _ _ _ _ jj => O 1 Z Z Z Z K jj)<|C Z Z (fun jj => F Z Z K K jj)<|c_val Z Z (fun _ _ _ _ jj => O 1 Z Z Z Z K jj)<|C Z Z (fun jj => G Z K jj)<|C Z Z (fun jj => o_call1 Z Z EntC.out K (successor_spec l hlen _ _ _ _ (poss_to (w := w) (t := t) (by simp_all))) jj) ?_
     refine C Z Z (fun jj => F Z Z K K jj) ?_
     refine c_sto (.cons_cons _ (.cons _ (.cons_cons _ (List.nil_sublist _)))) rfl rfl (fun _ _ _ _ jj => o_store 1 Z Z Z Z Z Z jj)<|C Z Z (fun jj => F Z Z K K jj) ?_
     refine c_sto (.cons_cons _ (.cons _ (.cons_cons _ (List.nil_sublist _)))) rfl rfl (fun _ _ _ _ jj => o_store 1 Z Z Z Z Z Z jj)<|c_nil<|h_seq<|h_seq<|H<|F Z Z K K<|O 1 Z Z Z Z K<|F Z Z K K<|O 1 Z Z Z Z K<|o_cmp Z Z Z K<|o_nil<|h_cond Z (fun c20 => ?_) (fun c20 => ?_)
     ·
      refine h_seq<|H<|o_build Z Z K ?_
      refine o_store 0 Z Z Z Z Z Z<|S Z K<|o_nil<|h_ret ?_
      have hq : claimM w l c t = (⟨0, 0, 0, 0, 0, false⟩, false) := (by unfold claimM; rw [if_neg (c := (possM w l t && carOk c.fr && carOk c.to && inM c.num 0 99999999) = false) (by simp only [possM]; simp_all), if_pos (c := succN c.num c.fr (untilM l t) = succN c.num c.to (untilM l t)) (by simpa using c20)])
      exact retG [] (.cons (resC 0 rfl rfl rfl) (.cons (resT rfl) .nil)) (List.nil_sublist _) ⟨_, rfl, by rw [hq]; rfl, rfl⟩
     ·
      refine h_skip<|h_seq<|H<|O 1 Z Z Z Z K ?_
      refine o_store 0 Z Z Z Z Z Z<|S Z K<|o_nil<|h_ret ?_
      have hq : claimM w l c t = ({ c with fr := succN c.num c.fr (untilM l t), to := succN c.num c.to (untilM l t) }, true) := (by unfold claimM; rw [if_neg (c := (possM w l t && carOk c.fr && carOk c.to && inM c.num 0 99999999) = false) (by simp only [possM]; simp_all), if_neg (c := succN c.num c.fr (untilM l t) = succN c.num c.to (untilM l t)) (by simpa using c20)])
      exact retG [] (.cons (resC 0 rfl rfl rfl) (.cons (resT rfl) .nil)) (List.nil_sublist _) ⟨_, rfl, by rw [hq]; rfl, rfl⟩
   ·
    have g16 : _ = true := g16
    refine U Z Z g16 K<|U Z Z g16 K<|U Z Z g16 K<|o_pickt Z g16 rfl K<|o_nil<|h_condt Z Z<|h_seq<|H<|o_build Z Z K ?_
    refine o_store 0 Z Z Z Z Z Z<|S Z K<|o_nil<|h_ret ?_
    have hq : claimM w l c t = (⟨0, 0, 0, 0, 0, false⟩, false) := (by unfold claimM; rw [if_pos (c := (possM w l t && carOk c.fr && carOk c.to && inM c.num 0 99999999) = false) (by simp only [possM]; first | (simp_all; done) | (simp_all; intro h1 h2; simp_all))])
    exact retG [] (.cons (resC 0 rfl rfl rfl) (.cons (resT rfl) .nil)) (List.nil_sublist _) ⟨_, rfl, by rw [hq]; rfl, rfl⟩
  ·
   have g14 : _ = true := g14
   refine U Z Z g14 K<|U Z Z g14 K<|U Z Z g14 K<|o_pickt Z g14 rfl K<|G Z K<|U Z Z Z K<|U Z Z Z K<|U Z Z Z K<|U Z Z Z K<|o_pickt Z Z Z K<|o_nil<|h_condt Z Z ?_
   refine h_seq<|H<|o_build Z Z K ?_
   refine o_store 0 Z Z Z Z Z Z<|S Z K<|o_nil<|h_ret ?_
   have hq : claimM w l c t = (⟨0, 0, 0, 0, 0, false⟩, false) := (by unfold claimM; rw [if_pos (c := (possM w l t && carOk c.fr && carOk c.to && inM c.num 0 99999999) = false) (by simp only [possM]; first | (simp_all; done) | (simp_all; intro h1 h2; simp_all))])
   exact retG [] (.cons (resC 0 rfl rfl rfl) (.cons (resT rfl) .nil)) (List.nil_sublist _) ⟨_, rfl, by rw [hq]; rfl, rfl⟩
 ·
  have g12 : _ = true := g12
  refine U Z Z g12 K<|U Z Z g12 K<|U Z Z g12 K<|o_pickt Z g12 rfl K<|G Z K<|U Z Z Z K<|U Z Z Z K<|U Z Z Z K<|U Z Z Z K<|o_pickt Z Z Z K<|G Z K<|U Z Z Z K ?_
  refine U Z Z Z K<|U Z Z Z K<|U Z Z Z K<|o_pickt Z Z Z K<|o_nil<|h_condt Z Z<|h_seq<|H<|o_build Z Z K ?_
  refine o_store 0 Z Z Z Z Z Z<|S Z K<|o_nil<|h_ret ?_
  have hq : claimM w l c t = (⟨0, 0, 0, 0, 0, false⟩, false) := (by unfold claimM; rw [if_pos (c := (possM w l t && carOk c.fr && carOk c.to && inM c.num 0 99999999) = false) (by simp only [possM]; first | (simp_all; done) | (simp_all; intro h1 h2; simp_all))])
  exact retG [] (.cons (resC 0 rfl rfl rfl) (.cons (resT rfl) .nil)) (List.nil_sublist _) ⟨_, rfl, by rw [hq]; rfl, rfl⟩

end Go.Proofs.YtnoicbajhlpndaaGreat
/- The walks of package merge: debts. -/
namespace Go.Proofs.YtnoicbajhlpndaaGreat
open Go Go.RowKit Go.Shelf Hp
set_option maxRecDepth 10000
set_option maxHeartbeats 1000000
set_option linter.unusedVariables false
set_option linter.unusedSimpArgs false
attribute [local irreducible] WP WPs FnX IterX YdX RetP PanP Ch Back Join
structure Dbt where
  fr : Int
  to : Int
  m : Int
  deriving DecidableEq, Inhabited
def encD (d : Dbt) : List PV := [pI d.fr, pI d.to, pI d.m]
def dD : Dbt := ⟨0, 0, 0⟩
/-- A slice of debts that is one's own: nil, or an array. -/
def DebtsAt (l : List Dbt) (v : AV) (h : AHeap) : Prop := (l = [] ∧ v = V [] true ∧ h = []) ∨ (∃ b cap, l.length ≤ cap ∧ v = .os b 3 0 l.length cap ∧ h = [(b, .arr 114 3 (l.map encD) cap)])
theorem okB_D {l : List Dbt} : ∀ z ∈ l.map encD, okB 3 z = true := by
  intro z hz; obtain ⟨b, _, rfl⟩ := List.mem_map.1 hz; rfl
theorem eltD {l : List Dbt} {n : Int} (h : n.toNat < l.length) : (l.map encD)[0 + n.toNat]? = some (encD (l.getD n.toNat dD)) := by
  rw [Nat.zero_add]; simp [h]
theorem setD0 {l : List Dbt} {n : Nat} {v : Dbt} {w : List PV} (hw : w = encD v) : (l.map encD).set (0 + n) w = (l.set n v).map encD := by
  rw [Nat.zero_add, List.map_set, hw]
theorem dbtIndex (l : List Dbt) (hlen : l.length ≤ 1000000000) (fl : Bool) (g : FuncId) [hg : EntC Tryz.prog g] (caps : List AV) (J : Nat → AHeap) (p : Nat → Bool) (hp : ∀ k (hk : k < l.length), Fc Tryz.prog g ([.agg [I l[k].fr, I l[k].to, I l[k].m]] ++ caps) (J k) (fun r h' => r = B (p k) ∧ h' = J (k + 1))) : Fc Tryz.prog 131 [V (l.map encD) fl, .fn g caps] (J 0) (fun r h' => r = I (idxOf p l.length) ∧ h' = J (cntOf p l.length)) := by
 refine fnE_intro (N := 19) Tryz.func131 rfl rfl rfl ?_
 intro X
 refine h_seq<|H<|S Z K<|o_nil<|h_seq<|h_seq<|H<|G Z K<|o_len Z K<|G Z K<|o_nil<|h_block ?_
 refine h_famS (ι := {k : Nat // k ≤ l.length ∧ ∀ j, j < k → p j = false}) (fun i => [(0, V (l.map encD) fl), (1, .fn g caps), (7, I ((l.map encD).length : Nat)), (8, I (i.1 : Nat))]) (fun i => J i.1) (fun i => l.length - i.1) ⟨0, Nat.zero_le _, fun j hj => absurd hj (Nat.not_lt_zero j)⟩ (.refl _) (subT.cons Z (subT.cons Z (subT.cons Z (subT.cons Z subT.nil)))) ?_
 rintro ⟨k, hk, hb⟩
 by_cases hlt : k < l.length
 ·
  refine h_seq<|H<|o_cmp Z Z Z K<|o_nil<|h_seq<|h_condt Z (by simp; omega) ?_
  refine h_skip<|h_seq<|h_block<|h_seq<|H<|G Z K<|S Z K<|o_nil<|h_seq<|H<|G Z K<|G Z K ?_
  refine G Z K<|o_idxv Z Z (by omega) (elt_map hlt) rfl K<|o_loadv Z Z K<|o_callA Z Z hg.out K (hp k hlt) fun v h' hr => ?_
  obtain ⟨rfl, rfl⟩ := hr
  refine o_nil<|h_cond Z (fun c3 => ?_) (fun c3 => ?_)
  ·
   refine h_seq<|H<|G Z K<|S Z K<|o_nil<|h_ret ?_
   obtain ⟨e1, e2⟩ := idx_some hlt c3 hb
   exact retK1 rfl ⟨_, rfl, by rw [e1], by rw [e2]⟩
  ·
   refine h_skip<|H<|o_add Z Z (by unfold in64; (try dsimp only); omega) K ?_
   refine G Z K<|o_nil<|back rfl ⟨k + 1, hlt, fun j hj => (by rcases Nat.lt_succ_iff_lt_or_eq.1 hj with h | h; exact hb j h; subst h; assumption)⟩ (by show l.length - (k + 1) < l.length - k; omega) (.refl _) (subT.cons Z (subT.cons Z (subT.cons Z (subT.cons Z subT.nil))))
 ·
  refine h_seq<|H<|o_cmp Z Z Z K<|o_nil<|h_seq<|h_condf Z (by simp; omega) ?_
  refine h_exit<|h_seq<|H<|S Z K<|o_nil<|h_ret ?_
  obtain rfl : k = l.length := by omega
  obtain ⟨e1, e2⟩ := idx_none hb
  exact retK1 rfl ⟨_, rfl, by rw [e1]; rfl, by rw [e2]⟩

theorem dbtContains (l : List Dbt) (hlen : l.length ≤ 1000000000) (fl : Bool) (g : FuncId) [hg : EntC Tryz.prog g] (caps : List AV) (J : Nat → AHeap) (p : Nat → Bool) (hp : ∀ k (hk : k < l.length), Fc Tryz.prog g ([.agg [I l[k].fr, I l[k].to, I l[k].m]] ++ caps) (J k) (fun r h' => r = B (p k) ∧ h' = J (k + 1))) : Fc Tryz.prog 86 [V (l.map encD) fl, .fn g caps] (J 0) (fun r h' => r = B ((List.range l.length).any p) ∧ h' = J (cntOf p l.length)) := by
 refine fnE_intro (N := 9) Tryz.func86 rfl rfl rfl ?_
 intro X
 refine h_seq<|H<|S Z K<|o_nil<|h_seq<|H<|G Z K<|G Z K<|o_callA Z Z EntC.out K (dbtIndex l hlen fl g caps J p hp) fun v h' hr => ?_
 obtain ⟨rfl, rfl⟩ := hr
 exact o_cmp Z Z Z K<|S Z K<|o_nil<|h_ret<|retK1 rfl ⟨_, rfl, B_eq idx_any, rfl⟩

theorem cloneD_nil (f : Bool) : Fc Tryz.prog 87 [V [] f] [] (fun r h' => DebtsAt [] r h') := by
 refine fnE_intro (N := 8) Tryz.func87 rfl rfl rfl ?_
 intro X
 refine h_seq<|H<|S Z K<|o_nil<|h_seq<|h_seq<|H<|G Z K<|o_eqnil Z K fun b6 hbb6 => o_nil<|h_cond Z (fun c7 => ?_) (fun c7 => ?_)
 ·
  exact h_seq<|H<|S Z K<|o_nil<|h_ret<|ret1 rfl ⟨_, rfl, .inl ⟨rfl, rfl, rfl⟩⟩
 ·
  refine h_skip<|h_seq<|H<|o_buildSlicep Z (by rfl) (by rfl) (by rfl) (by rfl) K ?_
  exact G Z K<|o_append0 Z Z K<|S Z K<|o_nil<|h_ret<|ret1 rfl ⟨_, rfl, .inl ⟨rfl, rfl, rfl⟩⟩

theorem cloneD_cons (x : Dbt) (l : List Dbt) (hlen : (x :: l).length ≤ 1000000000) (f : Bool) : Fc Tryz.prog 87 [V ((x :: l).map encD) f] [] (fun r h' => DebtsAt (x :: l) r h') := by
 refine fnE_intro (N := 8) Tryz.func87 rfl rfl rfl ?_
 intro X
 refine h_seq<|H<|S Z K<|o_nil<|h_seq<|h_seq<|H<|G Z K<|o_eqnil Z K fun b8 hbb8 => o_nil<|h_cond Z (fun c9 => ?_) (fun c9 => ?_)
 ·
  exact h_seq<|H<|S Z K<|o_nil<|h_ret<|absurd (hbb8 c9) (by simp)
 ·
  refine h_skip<|h_seq<|H<|o_buildSlicep Z (by rfl) (by rfl) (by rfl) (by rfl) K ?_
  refine G Z K<|o_appendv Z Z (Src.v _ _) okB_D (by simp [chunk]) (by simp) (by simp [chunk_length] at hlen ⊢; omega) K fun x10 c11 hc12 => ?_
  exact S Z K<|o_nil<|h_ret<|retS1 [_] rfl (.refl _) ⟨_, rfl, .inr ⟨x10, c11, (by simpa [chunk_length] using hc12), (by simp [chunk_length]), by simp [chunk]⟩⟩

theorem cloneD_spec (l : List Dbt) (hlen : l.length ≤ 1000000000) (f : Bool) : Fc Tryz.prog 87 [V (l.map encD) f] [] (fun r h' => DebtsAt l r h') := by
  cases l with
  | nil => exact cloneD_nil f
  | cons x l => exact cloneD_cons x l hlen f
def owedM (l : List Dbt) (a b m : Int) : List Dbt := if 0 < m then l ++ [⟨a, b, m⟩] else if m < 0 then l ++ [⟨b, a, -m⟩] else l

theorem owed_nil (a b m : Int) (hm : -1000000000000 ≤ m ∧ m ≤ 1000000000000) : Fc Tryz.prog 89 [V [] true, I a, I b, I m] [] (fun r h' => DebtsAt (owedM [] a b m) r h') := by
 refine fnE_intro (N := 31) Tryz.func89 rfl rfl rfl ?_
 intro X
 refine h_seq<|H<|S Z K<|o_nil<|h_seq<|h_block<|h_seq<|H<|G Z K<|o_cmp Z Z Z K<|S Z K<|o_nil ?_
 refine h_cond Z (fun c14 => ?_) (fun c14 => ?_)
 ·
  refine h_seq<|H<|G Z K<|G Z K<|G Z K<|G Z K<|o_build Z Z K<|o_buildSlicep Z (by rfl) (by rfl) (by rfl) (by rfl) K ?_
  refine o_appendv Z Z (Src.v _ _) (okB_one rfl) (by simp) (by rw [chunk_length]; decide) (by simp [chunk_length]) K fun x15 c16 hc17 => ?_
  refine S Z K<|o_nil<|h_ret ?_
  have hq : owedM [] a b m = [] ++ [⟨a, b, m⟩] := (by unfold owedM; simp only [decide_eq_true_eq, decide_eq_false_iff_not] at *; first | rw [if_pos (by omega)] | rw [if_neg (by omega), if_pos (by omega)] | rw [if_neg (by omega), if_neg (by omega)])
  exact retS1 [_] rfl (.refl _) ⟨_, rfl, by rw [hq]; exact .inr ⟨x15, c16, (by simpa [chunk_length] using hc17), (by simp [chunk_length]), (by simp [encD, chunk])⟩⟩
 ·
  refine h_seq<|H<|G Z K<|o_cmp Z Z Z K<|S Z K<|o_nil<|h_cond Z (fun c19 => ?_) (fun c19 => ?_)
  ·
   refine h_seq<|H<|G Z K<|G Z K<|G Z K<|G Z K<|o_neg Z (by unfold in64; (try dsimp only); omega) K ?_
   refine o_build Z Z K<|o_buildSlicep Z (by rfl) (by rfl) (by rfl) (by rfl) K ?_
   refine o_appendv Z Z (Src.v _ _) (okB_one rfl) (by simp) (by rw [chunk_length]; decide) (by simp [chunk_length]) K fun x20 c21 hc22 => ?_
   refine S Z K<|o_nil<|h_ret ?_
   have hq : owedM [] a b m = [] ++ [⟨b, a, -m⟩] := (by unfold owedM; simp only [decide_eq_true_eq, decide_eq_false_iff_not] at *; first | rw [if_pos (by omega)] | rw [if_neg (by omega), if_pos (by omega)] | rw [if_neg (by omega), if_neg (by omega)])
   exact retS1 [_] rfl (.refl _) ⟨_, rfl, by rw [hq]; exact .inr ⟨x20, c21, (by simpa [chunk_length] using hc22), (by simp [chunk_length]), (by simp [encD, chunk])⟩⟩
  ·
   refine h_skip<|h_seq<|H<|G Z K<|S Z K<|o_nil<|h_ret ?_
   have hq : owedM [] a b m = [] := (by unfold owedM; simp only [decide_eq_true_eq, decide_eq_false_iff_not] at *; first | rw [if_pos (by omega)] | rw [if_neg (by omega), if_pos (by omega)] | rw [if_neg (by omega), if_neg (by omega)])
   exact retS1 [] rfl (List.nil_sublist _) ⟨_, rfl, by rw [hq]; exact .inl ⟨rfl, rfl, rfl⟩⟩

theorem owed_os (l : List Dbt) (hlen : l.length ≤ 2000000000) (bb cap : Nat) (hc : l.length ≤ cap) (a b m : Int) (hm : -1000000000000 ≤ m ∧ m ≤ 1000000000000) : Fc Tryz.prog 89 [.os bb 3 0 l.length cap, I a, I b, I m] [(bb, .arr 114 3 (l.map encD) cap)] (fun r h' => DebtsAt (owedM l a b m) r h') := by
 refine fnE_intro (N := 31) Tryz.func89 rfl rfl rfl ?_
 intro X
 refine h_seq<|H<|S Z K<|o_nil<|h_seq<|h_block<|h_seq<|H<|G Z K<|o_cmp Z Z Z K<|S Z K<|o_nil ?_
 refine h_cond Z (fun c24 => ?_) (fun c24 => ?_)
 ·
  refine h_seq<|H<|G Z K<|G Z K<|G Z K<|G Z K<|o_build Z Z K<|o_buildSlicep Z (by rfl) (by rfl) (by rfl) (by rfl) K ?_
  refine o_append 0 Z Z Z (Src.v _ _) (okB_one rfl) (by simp) (by simp [chunk_length]; omega) K fun x25 c26 hc27 => ?_
  refine S Z K<|o_nil<|h_ret ?_
  have hq : owedM l a b m = l ++ [⟨a, b, m⟩] := (by unfold owedM; simp only [decide_eq_true_eq, decide_eq_false_iff_not] at *; first | rw [if_pos (by omega)] | rw [if_neg (by omega), if_pos (by omega)] | rw [if_neg (by omega), if_neg (by omega)])
  exact retS1 [_] rfl (.refl _) ⟨_, rfl, by rw [hq]; exact .inr ⟨x25, c26, (by simpa [chunk_length] using hc27), (by simp [chunk_length]), (by simp [encD, chunk])⟩⟩
 ·
  refine h_seq<|H<|G Z K<|o_cmp Z Z Z K<|S Z K<|o_nil<|h_cond Z (fun c29 => ?_) (fun c29 => ?_)
  ·
   refine h_seq<|H<|G Z K<|G Z K<|G Z K<|G Z K<|o_neg Z (by unfold in64; (try dsimp only); omega) K ?_
   refine o_build Z Z K<|o_buildSlicep Z (by rfl) (by rfl) (by rfl) (by rfl) K ?_
   refine o_append 0 Z Z Z (Src.v _ _) (okB_one rfl) (by simp) (by simp [chunk_length]; omega) K fun x30 c31 hc32 => ?_
   refine S Z K<|o_nil<|h_ret ?_
   have hq : owedM l a b m = l ++ [⟨b, a, -m⟩] := (by unfold owedM; simp only [decide_eq_true_eq, decide_eq_false_iff_not] at *; first | rw [if_pos (by omega)] | rw [if_neg (by omega), if_pos (by omega)] | rw [if_neg (by omega), if_neg (by omega)])
   exact retS1 [_] rfl (.refl _) ⟨_, rfl, by rw [hq]; exact .inr ⟨x30, c31, (by simpa [chunk_length] using hc32), (by simp [chunk_length]), (by simp [encD, chunk])⟩⟩
  ·
   refine h_skip<|h_seq<|H<|G Z K<|S Z K<|o_nil<|h_ret ?_
   have hq : owedM l a b m = l := (by unfold owedM; simp only [decide_eq_true_eq, decide_eq_false_iff_not] at *; first | rw [if_pos (by omega)] | rw [if_neg (by omega), if_pos (by omega)] | rw [if_neg (by omega), if_neg (by omega)])
   exact retS1 [_] rfl (.refl _) ⟨_, rfl, by rw [hq]; exact .inr ⟨bb, cap, hc, rfl, rfl⟩⟩

theorem owed_spec (l : List Dbt) (hlen : l.length ≤ 2000000000) (v : AV) (h : AHeap) (hd : DebtsAt l v h) (a b m : Int) (hm : -1000000000000 ≤ m ∧ m ≤ 1000000000000) : Fc Tryz.prog 89 [v, I a, I b, I m] h (fun r h' => DebtsAt (owedM l a b m) r h') := by
  rcases hd with ⟨hl, rfl, rfl⟩ | ⟨bb, cap, hc, rfl, rfl⟩
  · exact (hl ▸ owed_nil a b m hm)
  · exact owed_os l hlen bb cap hc a b m hm

theorem ren1_spec (d : Dbt) : Fn1 Tryz.prog 133 [.agg [I d.fr, I d.to, I d.m]] (B (decide (d.fr = d.to))) := by
 refine fnE_intro (N := 8) Tryz.func133 rfl rfl rfl ?_
 intro X
 refine h_seq<|H<|o_box Z Z K fun x33 => S Z K<|o_nil<|h_seq<|H<|F Z Z K K<|O 0 Z Z Z Z K<|F Z Z K K<|O 0 Z Z Z Z K<|o_cmp Z Z Z K ?_
 exact S Z K<|o_nil<|h_ret<|ret1' Z Z

end Go.Proofs.YtnoicbajhlpndaaGreat
/- The walks of slices.DeleteFunc of debts, merge.renamed. -/
namespace Go.Proofs.YtnoicbajhlpndaaGreat
open Go Go.RowKit Go.Shelf Hp
set_option maxRecDepth 10000
set_option maxHeartbeats 1000000
set_option linter.unusedVariables false
set_option linter.unusedSimpArgs false
attribute [local irreducible] WP WPs FnX IterX YdX RetP PanP Ch Back Join
def keepD (d : Dbt) : Bool := !decide (d.fr = d.to)
abbrev delP (l : List Dbt) (k : Nat) : Bool := decide ((l.getD k dD).fr = (l.getD k dD).to)
theorem del_hp (l : List Dbt) : ∀ k (hk : k < l.length), Fc Tryz.prog 133 ([.agg [I l[k].fr, I l[k].to, I l[k].m]] ++ []) [] (fun r h' => r = B (delP l k) ∧ h' = []) := fun k hk => by
  have e : l.getD k dD = l[k] := by simp [hk]
  simp only [delP, e]
  exact ren1_spec l[k]
theorem index_spec (l : List Dbt) (hlen : l.length ≤ 1000000000) (f : Bool) : Fn1 Tryz.prog 131 [V (l.map encD) f, .fn 133 []] (I (idxOf (delP l) l.length)) :=
  dbtIndex l hlen f 133 [] (fun _ => []) (delP l) (del_hp l)
theorem filter_none {l : List Dbt} (h : ∀ k, k < l.length → delP l k = false) : l.filter keepD = l := by
  rw [List.filter_eq_self]
  intro d hd
  obtain ⟨k, hk, rfl⟩ := List.getElem_of_mem hd
  have := h k hk
  simp only [delP] at this
  rw [show l.getD k dD = l[k] from by simp [hk]] at this
  simp only [keepD, this]; rfl
/-- Rounds of DeleteFunc. -/
structure DelI (l : List Dbt) where
  i : Nat
  j : Nat
  cur : List Dbt
  hij : i < j
  hj : j ≤ l.length
  hn : cur.length = l.length
  ht : cur.take i = (l.take j).filter keepD
  hd : cur.drop j = l.drop j
theorem DelI.at {l : List Dbt} (s : DelI l) (h : s.j < l.length) : s.cur.getD s.j dD = l.getD s.j dD := by
  have := congrArg (fun x => x[0]?) s.hd
  simp only [List.getElem?_drop, Nat.add_zero] at this
  simp [this]
theorem take_succD {l : List Dbt} {j : Nat} (h : j < l.length) : l.take (j + 1) = l.take j ++ [l.getD j dD] := by
  rw [List.take_add_one, List.getElem?_eq_getElem h]; simp [h]
def DelI.keep {l : List Dbt} (s : DelI l) (h : s.j < l.length) (hk : keepD (l.getD s.j dD) = true) : DelI l where
  i := s.i + 1
  j := s.j + 1
  cur := s.cur.set s.i (l.getD s.j dD)
  hij := by have := s.hij; omega
  hj := h
  hn := by simp [s.hn]
  ht := by
    have hi : s.i < s.cur.length := by have := s.hij; have := s.hn; omega
    rw [take_succD h, List.filter_append, ← s.ht, List.take_add_one, List.take_set_of_le (Nat.le_refl _), List.getElem?_set_self hi]
    have : [l.getD s.j dD].filter keepD = [l.getD s.j dD] := by rw [List.filter_cons, if_pos hk]; rfl
    rw [this]; rfl
  hd := by
    have := congrArg List.tail s.hd
    simp only [List.tail_drop] at this
    rw [List.drop_set_of_lt (by have := s.hij; omega)]
    exact this
def DelI.drop {l : List Dbt} (s : DelI l) (h : s.j < l.length) (hk : keepD (l.getD s.j dD) = false) : DelI l where
  i := s.i
  j := s.j + 1
  cur := s.cur
  hij := by have := s.hij; omega
  hj := h
  hn := s.hn
  ht := by
    rw [take_succD h, List.filter_append, ← s.ht]
    have : [l.getD s.j dD].filter keepD = [] := by rw [List.filter_cons, if_neg (by rw [hk]; simp)]; rfl
    rw [this, List.append_nil]
  hd := by
    have := congrArg List.tail s.hd
    simpa only [List.tail_drop] using this
def DelI.init {l : List Dbt} {k : Nat} (h : k < l.length) (hp : delP l k = true) (hb : ∀ j, j < k → delP l j = false) : DelI l where
  i := k
  j := k + 1
  cur := l
  hij := by omega
  hj := h
  hn := rfl
  ht := by
    rw [take_succD h, List.filter_append]
    have e1 : (l.take k).filter keepD = l.take k := filter_none fun j hj => by
      have hjk : j < k := by simp at hj; omega
      have := hb j hjk
      simp only [delP] at this ⊢
      rw [show (l.take k).getD j dD = l.getD j dD from by simp [List.getElem?_take_of_lt hjk]]; exact this
    have e2 : [l.getD k dD].filter keepD = [] := by rw [List.filter_cons, if_neg (by simpa [keepD] using hp)]; rfl
    rw [e1, e2, List.append_nil]
  hd := rfl

theorem delete_nil : Fc Tryz.prog 132 [V [] true, .fn 133 []] [] (fun r h' => DebtsAt [] r h') := by
 refine fnE_intro (N := 42) Tryz.func132 rfl rfl rfl ?_
 intro X
 refine h_seq<|H<|S Z K<|o_nil<|h_seq<|H<|G Z K<|G Z K<|o_call1 Z Z EntC.out K (index_spec [] (by simp) true) ?_
 refine S Z K<|o_nil<|h_seq<|h_seq<|H<|G Z K<|o_cmp Z Z Z K<|o_nil<|h_condt Z K<|h_seq<|H<|G Z K ?_
 exact S Z K<|o_nil<|h_ret<|retS1 [] rfl (List.nil_sublist _) ⟨_, rfl, .inl ⟨rfl, rfl, rfl⟩⟩

theorem idx_cases (p : Nat → Bool) (n : Nat) : (idxOf p n = -1 ∧ ∀ k, k < n → p k = false) ∨ ∃ k, k < n ∧ idxOf p n = k ∧ p k = true ∧ ∀ j, j < k → p j = false := by
  cases hf : fst? p n 0 with
  | none =>
    left
    refine ⟨by simp [idxOf, hf], fun k hk => ?_⟩
    by_cases hp : ∃ j, j < n ∧ p j = true
    · exfalso
      obtain ⟨j, hj, hpj⟩ := hp
      obtain ⟨m, ⟨hm1, hm2⟩, hm3⟩ := exists_least (p := fun j => j < n ∧ p j = true) j ⟨hj, hpj⟩
      have := fst_some n 0 m (Nat.zero_le _) (by omega) hm2 (fun q _ hq => by
        cases hpq : p q with
        | false => rfl
        | true => have := hm3 q ⟨by omega, hpq⟩; omega)
      rw [hf] at this; cases this
    · cases hpk : p k with
      | false => rfl
      | true => exact absurd ⟨k, hk, hpk⟩ hp
  | some k =>
    right
    obtain ⟨_, h2, h3, h4⟩ := fst_inv n 0 k hf
    exact ⟨k, by omega, by simp [idxOf, hf], h3, fun j hj => h4 j (Nat.zero_le _) hj⟩

theorem delete_os (l : List Dbt) (hlen : l.length ≤ 1000000000) (bb cap : Nat) (hc : l.length ≤ cap) : Fc Tryz.prog 132 [.os bb 3 0 l.length cap, .fn 133 []] [(bb, .arr 114 3 (l.map encD) cap)] (fun r h' => DebtsAt (l.filter keepD) r h') := by
 refine fnE_intro (N := 42) Tryz.func132 rfl rfl rfl ?_
 intro X
 refine h_seq<|H<|S Z K<|o_nil<|h_seq<|H<|G Z K<|G Z K<|o_callL 0 Z Z Z EntC.out K (.cons (.os _ _ (by simp) hc) (.cons (.refl _) .nil)) (index_spec l hlen false) ?_
 rcases idx_cases (delP l) l.length with ⟨hx, hb⟩ | ⟨k, hk, hx, hpk, hb⟩
 ·
  rw [hx]
  refine S Z K<|o_nil<|h_seq<|h_seq<|H<|G Z K<|o_cmp Z Z Z K<|o_nil<|h_condt Z (by simp) ?_
  refine h_seq<|H<|G Z K<|S Z K<|o_nil<|h_ret ?_
  have hnone : l.filter keepD = l := filter_none fun k hk => hb k hk
  exact retS1 [_] rfl (.refl _) ⟨_, rfl, by rw [hnone]; exact .inr ⟨bb, cap, hc, rfl, rfl⟩⟩
 ·
  rw [hx]
  refine S Z K<|o_nil<|h_seq<|h_seq<|H<|G Z K<|o_cmp Z Z Z K<|o_nil<|h_condf Z (by simp <;> omega) ?_
  refine h_skip<|h_seq<|h_seq<|H<|G Z K<|o_add Z Z (by unfold in64; (try dsimp only); omega) K ?_
  refine S Z K<|o_nil<|h_block<|h_famS (ι := DelI l) (fun i => [(0, .os bb 3 0 l.length cap), (1, .fn 133 []), (5, I (i.i : Nat)), (6, I (i.j : Nat))]) (fun i => (bb, .arr 114 3 (i.cur.map encD) cap) :: []) (fun i => l.length - i.j) (DelI.init hk hpk hb) (.cons_cons _ (.refl _)) (subT.cons Z (subT.cons Z (subT.cons Z (subT.cons Z subT.nil)))) ?_
  rintro s
  have hij := s.hij
  have hjl := s.hj
  have hcn := s.hn
  by_cases hlt : s.j < l.length
  ·
   have hat := s.at hlt
   refine h_seq<|h_seq<|H<|G Z K<|G Z K<|o_leno Z K<|o_cmp Z Z Z K<|o_nil<|h_condt Z (by simp; omega) ?_
   refine h_skip<|h_seq<|h_block<|h_seq<|H<|G Z K<|G Z K<|o_idxo Z Z (by omega) (by omega) K<|o_loade 0 Z Z (eltD (by omega)) rfl rfl K<|o_alloc K fun x5 => ?_
   refine o_store 0 Z Z Z Z Z Z<|o_nil<|h_seq<|H<|G Z K<|O 0 Z Z Z Z K<|o_call1 Z Z EntC.out K (ren1_spec (s.cur.getD s.j dD))<|o_not Z K<|o_nil<|h_cond Z (fun c7 => ?_) (fun c7 => ?_)
   ·
    refine h_seq<|H<|G Z K<|G Z K<|O 0 Z Z Z Z K<|o_idxo Z Z (by omega) (by omega) K ?_
    refine o_storee 1 Z Z (eltD (by simp; omega)) rfl rfl rfl rfl (by simp [encD]) ?_
    refine o_nil<|h_heap (congrArg (fun z => [_, (bb, OB.arr 114 3 z cap)]) (setD0 (n := s.i) (v := l.getD s.j dD) (by rw [← hat]; rfl)))<|H<|G Z K<|o_add Z Z (by unfold in64; (try dsimp only); omega) K ?_
    refine S Z K<|o_nil<|H<|G Z K<|o_add Z Z (by unfold in64; (try dsimp only); omega) K ?_
    refine S Z K<|o_nil ?_
    have hk : keepD (l.getD s.j dD) = true := by rw [← hat]; simp only [keepD]; have := (not_of c7); simp_all
    refine back rfl (s.keep hlt hk) (by simp only [DelI.keep, DelI.drop]; omega) (.cons _ (.cons_cons _ (.refl _))) (subT.cons Z (subT.cons Z (subT.cons Z (subT.cons Z subT.nil))))
   ·
    refine h_skip<|H<|G Z K<|o_add Z Z (by unfold in64; (try dsimp only); omega) K ?_
    refine S Z K<|o_nil ?_
    have hk : keepD (l.getD s.j dD) = false := by rw [← hat]; simp only [keepD]; have := (not_of c7); simp_all
    refine back rfl (s.drop hlt hk) (by simp only [DelI.keep, DelI.drop]; omega) (.cons _ (.cons_cons _ (.refl _))) (subT.cons Z (subT.cons Z (subT.cons Z (subT.cons Z subT.nil))))
  ·
   refine h_seq<|h_seq<|H<|G Z K<|G Z K<|o_leno Z K<|o_cmp Z Z Z K<|o_nil<|h_condf Z (by simp; omega) ?_
   refine h_exit<|h_seq<|H<|G Z K<|G Z K<|o_tailo Z Z (by omega) (by simp; omega) (by omega) K ?_
   refine o_clearo 0 Z Z Z (by simp; omega) (by simp; omega) (by simp; omega) ?_
   refine o_nil<|h_seq<|H<|G Z K<|G Z K<|o_fronto Z Z (by omega) (by simp; omega) (by omega) K ?_
   refine S Z K<|o_nil<|h_ret ?_
   obtain hje : s.j = l.length := by omega
   have hfin : s.cur.take s.i = l.filter keepD := by rw [s.ht, hje, List.take_length]
   have hil : (l.filter keepD).length = s.i := by rw [← hfin, List.length_take]; omega
   exact retS1 [_] rfl (.refl _) ⟨_, rfl, .inr ⟨bb, cap, by omega, by rw [hil]; rfl, by rw [← hfin, List.map_take]; simp⟩⟩

end Go.Proofs.YtnoicbajhlpndaaGreat
/- The walk of merge.renamed. -/
namespace Go.Proofs.YtnoicbajhlpndaaGreat
open Go Go.RowKit Go.Shelf Hp
set_option maxRecDepth 10000
set_option maxHeartbeats 1000000
set_option linter.unusedVariables false
set_option linter.unusedSimpArgs false
attribute [local irreducible] WP WPs FnX IterX YdX RetP PanP Ch Back Join
def renD (a b : Int) (d : Dbt) : Dbt := ⟨if d.fr = a then b else d.fr, if d.to = a then b else d.to, d.m⟩
def renamedM (l : List Dbt) (a b : Int) : List Dbt := (l.map (renD a b)).filter keepD
theorem delete_os' (l : List Dbt) (hlen : l.length ≤ 1000000000) (bb cap n : Nat) (hn : n = l.length) (hc : n ≤ cap) : Fc Tryz.prog 132 [.os bb 3 0 n cap, .fn 133 []] [(bb, .arr 114 3 (l.map encD) cap)] (fun r h' => DebtsAt (l.filter keepD) r h') := by
  subst hn; exact delete_os l hlen bb cap hc
structure RenI (l : List Dbt) (a b : Int) where
  k : Nat
  cur : List Dbt
  hk : k ≤ l.length
  hn : cur.length = l.length
  ht : cur.take k = (l.take k).map (renD a b)
  hd : cur.drop k = l.drop k
theorem RenI.at {l : List Dbt} {a b : Int} (s : RenI l a b) (h : s.k < l.length) : s.cur.getD s.k dD = l.getD s.k dD := by
  have := congrArg (fun x => x[0]?) s.hd
  simp only [List.getElem?_drop, Nat.add_zero] at this
  simp [this]
def RenI.next {l : List Dbt} {a b : Int} (s : RenI l a b) (h : s.k < l.length) (cur' : List Dbt) (hc : cur' = s.cur.set s.k (renD a b (l.getD s.k dD))) : RenI l a b where
  k := s.k + 1
  cur := cur'
  hk := h
  hn := by rw [hc]; simp [s.hn]
  ht := by
    have hi : s.k < s.cur.length := by have := s.hn; omega
    rw [hc, take_succD h, List.map_append, ← s.ht, List.take_add_one, List.take_set_of_le (Nat.le_refl _), List.getElem?_set_self hi]; rfl
  hd := by
    have := congrArg List.tail s.hd
    simp only [List.tail_drop] at this
    rw [hc, List.drop_set_of_lt (by omega)]
    exact this
theorem set_getD {l : List Dbt} {k : Nat} : l.set k (l.getD k dD) = l := by
  by_cases h : k < l.length
  · simp [h]
  · rw [List.set_eq_of_length_le (by omega)]

theorem renamed_nil (a b : Int) : Fc Tryz.prog 88 [V [] true, I a, I b] [] (fun r h' => DebtsAt [] r h') := by
 refine fnE_intro (N := 37) Tryz.func88 rfl rfl rfl ?_
 intro X
 refine h_seq<|H<|S Z K<|o_nil<|h_seq<|h_seq<|H<|G Z K<|o_len Z K<|G Z K<|o_nil<|h_block ?_
 refine h_famS (ι := Unit) (fun i => [(0, V [] true), (9, V [] true), (1, I a), (2, I b), (10, I (0 : Nat)), (11, I (0 : Nat))]) (fun i => []) (fun i => 0) () (.refl _) (subT.cons Z (subT.cons Z (subT.cons Z (subT.cons Z (subT.cons Z (subT.cons Z subT.nil)))))) ?_
 rintro ⟨⟩
 refine h_seq<|H<|o_cmp Z Z Z K<|o_nil<|h_seq<|h_condf Z K<|h_exit<|h_seq<|H<|G Z K<|o_callA Z Z EntC.out K delete_nil fun v h' hr => S Z K ?_
 exact o_nil<|h_ret<|retK1 rfl ⟨_, rfl, hr⟩

theorem renamed_os (l : List Dbt) (hlen : l.length ≤ 1000000000) (bb cap : Nat) (hc : l.length ≤ cap) (a b : Int) : Fc Tryz.prog 88 [.os bb 3 0 l.length cap, I a, I b] [(bb, .arr 114 3 (l.map encD) cap)] (fun r h' => DebtsAt (renamedM l a b) r h') := by
 refine fnE_intro (N := 37) Tryz.func88 rfl rfl rfl ?_
 intro X
 refine h_seq<|H<|S Z K<|o_nil<|h_seq<|h_seq<|H<|G Z K<|o_leno Z K<|G Z K<|o_nil<|h_block ?_
 refine h_famS (ι := RenI l a b) (fun i => [(0, .os bb 3 0 l.length cap), (9, .os bb 3 0 l.length cap), (1, I a), (2, I b), (10, I (l.length : Nat)), (11, I (i.k : Nat))]) (fun i => (bb, .arr 114 3 (i.cur.map encD) cap) :: []) (fun i => l.length - i.k) ⟨0, l, Nat.zero_le _, rfl, rfl, rfl⟩ (.cons_cons _ (.refl _)) (subT.cons Z (subT.cons Z (subT.cons Z (subT.cons Z (subT.cons Z (subT.cons Z subT.nil)))))) ?_
 rintro ⟨k, cur, hk, hn, ht, hd⟩
 dsimp only
 by_cases hlt : k < l.length
 ·
  have hat : cur.getD k dD = l.getD k dD := (RenI.mk k cur hk hn ht hd).at hlt
  refine h_seq<|H<|o_cmp Z Z Z K<|o_nil<|h_seq<|h_condt Z (by simp; omega) ?_
  refine h_skip<|h_seq<|h_block<|h_seq<|H<|G Z K<|o_idxo Z Z (by omega) (by omega) K<|o_loade 0 Z Z (eltD (by first | omega | (simp; omega))) rfl rfl K ?_
  refine o_alloc K fun x3 => S Z K ?_
  refine o_store 0 Z Z Z Z Z Z<|o_nil<|h_seq<|h_seq<|H<|F Z Z K K<|O 0 Z Z Z Z K<|G Z K<|o_cmp Z Z Z K<|o_nil<|h_cond Z (fun c5 => ?_) (fun c5 => ?_)
  ·
   refine H<|G Z K<|G Z K<|G Z K<|o_idxo Z Z (by omega) (by omega) K<|o_faddre Z Z K K ?_
   refine o_storee 1 Z Z (eltD (by first | omega | (simp; omega))) rfl rfl rfl rfl (by simp [encD]) ?_
   refine o_nil<|h_heap (congrArg (fun z => [_, (bb, OB.arr 114 3 z cap)]) (setD0 (n := k) (l := cur) (v := ⟨b, (cur.getD k dD).to, (cur.getD k dD).m⟩) rfl))<|h_seq<|H<|F Z Z K K<|O 0 Z Z Z Z K<|G Z K<|o_cmp Z Z Z K<|o_nil<|h_cond Z (fun c7 => ?_) (fun c7 => ?_)
   ·
    refine H<|G Z K<|G Z K<|G Z K<|o_idxo Z Z (by omega) (by omega) K<|o_faddre Z Z K K ?_
    refine o_storee 1 Z Z (eltD (by first | omega | (simp; omega))) rfl rfl rfl rfl (by simp [encD]) ?_
    refine o_nil<|h_heap (congrArg (fun z => [_, (bb, OB.arr 114 3 z cap)]) (setD0 (n := k) (l := (cur.set k ⟨b, (cur.getD k dD).to, (cur.getD k dD).m⟩)) (v := ⟨((cur.set k ⟨b, (cur.getD k dD).to, (cur.getD k dD).m⟩).getD k dD).fr, b, ((cur.set k ⟨b, (cur.getD k dD).to, (cur.getD k dD).m⟩).getD k dD).m⟩) rfl))<|H<|o_add Z Z (by unfold in64; (try dsimp only); omega) K ?_
    refine G Z K<|o_nil ?_
    have h1 := c5
    have h2 := c7
    simp only [decide_eq_true_eq, decide_eq_false_iff_not, Int.toNat_natCast] at h1 h2
    refine back rfl ((RenI.mk k cur hk hn ht hd).next hlt ((cur.set k ⟨b, (cur.getD k dD).to, (cur.getD k dD).m⟩).set k ⟨((cur.set k ⟨b, (cur.getD k dD).to, (cur.getD k dD).m⟩).getD k dD).fr, b, ((cur.set k ⟨b, (cur.getD k dD).to, (cur.getD k dD).m⟩).getD k dD).m⟩) (by rw [← hat, List.set_set]; congr 1; have hi : k < cur.length := (by omega); simp only [List.getD_eq_getElem?_getD] at h1 h2; simp only [renD, if_pos h1, if_pos h2, List.getD_eq_getElem?_getD, List.getElem?_set_self hi, Option.getD_some])) (by simp only [RenI.next]; omega) (.cons _ (.cons_cons _ (.refl _))) (subT.cons Z (subT.cons Z (subT.cons Z (subT.cons Z (subT.cons Z (subT.cons Z subT.nil))))))
   ·
    refine h_skip<|H<|o_add Z Z (by unfold in64; (try dsimp only); omega) K ?_
    refine G Z K<|o_nil ?_
    have h1 := c5
    have h2 := c7
    simp only [decide_eq_true_eq, decide_eq_false_iff_not, Int.toNat_natCast] at h1 h2
    refine back rfl ((RenI.mk k cur hk hn ht hd).next hlt (cur.set k ⟨b, (cur.getD k dD).to, (cur.getD k dD).m⟩) (by rw [← hat]; simp only [renD, if_pos h1, if_neg h2])) (by simp only [RenI.next]; omega) (.cons _ (.cons_cons _ (.refl _))) (subT.cons Z (subT.cons Z (subT.cons Z (subT.cons Z (subT.cons Z (subT.cons Z subT.nil))))))
  ·
   refine h_skip<|h_seq<|H<|F Z Z K K<|O 0 Z Z Z Z K<|G Z K<|o_cmp Z Z Z K<|o_nil<|h_cond Z (fun c9 => ?_) (fun c9 => ?_)
   ·
    refine H<|G Z K<|G Z K<|G Z K<|o_idxo Z Z (by omega) (by omega) K<|o_faddre Z Z K K ?_
    refine o_storee 1 Z Z (eltD (by first | omega | (simp; omega))) rfl rfl rfl rfl (by simp [encD]) ?_
    refine o_nil<|h_heap (congrArg (fun z => [_, (bb, OB.arr 114 3 z cap)]) (setD0 (n := k) (l := cur) (v := ⟨(cur.getD k dD).fr, b, (cur.getD k dD).m⟩) rfl))<|H<|o_add Z Z (by unfold in64; (try dsimp only); omega) K ?_
    refine G Z K<|o_nil ?_
    have h1 := c5
    have h2 := c9
    simp only [decide_eq_true_eq, decide_eq_false_iff_not, Int.toNat_natCast] at h1 h2
    refine back rfl ((RenI.mk k cur hk hn ht hd).next hlt (cur.set k ⟨(cur.getD k dD).fr, b, (cur.getD k dD).m⟩) (by rw [← hat]; simp only [renD, if_neg h1, if_pos h2])) (by simp only [RenI.next]; omega) (.cons _ (.cons_cons _ (.refl _))) (subT.cons Z (subT.cons Z (subT.cons Z (subT.cons Z (subT.cons Z (subT.cons Z subT.nil))))))
   ·
    refine h_skip<|H<|o_add Z Z (by unfold in64; (try dsimp only); omega) K ?_
    refine G Z K<|o_nil ?_
    have h1 := c5
    have h2 := c9
    simp only [decide_eq_true_eq, decide_eq_false_iff_not, Int.toNat_natCast] at h1 h2
    refine back rfl ((RenI.mk k cur hk hn ht hd).next hlt cur (by have e : renD a b (l.getD k dD) = cur.getD k dD := (by rw [← hat]; simp only [renD, if_neg h1, if_neg h2]); rw [e]; exact set_getD.symm)) (by simp only [RenI.next]; omega) (.cons _ (.cons_cons _ (.refl _))) (subT.cons Z (subT.cons Z (subT.cons Z (subT.cons Z (subT.cons Z (subT.cons Z subT.nil))))))
 ·
  obtain rfl : k = l.length := by omega
  have hcur : cur = l.map (renD a b) := by rw [List.take_of_length_le (by omega), List.take_length] at ht; exact ht
  refine h_seq<|H<|o_cmp Z Z Z K<|o_nil<|h_seq<|h_condf Z (by simp) ?_
  exact h_exit<|h_seq<|H<|G Z K<|o_callA Z Z EntC.out K (delete_os' cur (by omega) bb cap l.length (by omega) hc) fun v h' hr => S Z K<|o_nil<|h_ret<|retK1 rfl ⟨_, rfl, by rw [hcur] at hr; exact hr⟩

theorem renamed_spec (l : List Dbt) (hlen : l.length ≤ 1000000000) (v : AV) (h : AHeap) (hd : DebtsAt l v h) (a b : Int) : Fc Tryz.prog 88 [v, I a, I b] h (fun r h' => DebtsAt (renamedM l a b) r h') := by
  rcases hd with ⟨rfl, rfl, rfl⟩ | ⟨bb, cap, hc, rfl, rfl⟩
  · exact renamed_nil a b
  · exact renamed_os l hlen bb cap hc a b

end Go.Proofs.YtnoicbajhlpndaaGreat
/- The walk of merge.Debts. -/
namespace Go.Proofs.YtnoicbajhlpndaaGreat
open Go Go.RowKit Go.Shelf Hp
set_option maxRecDepth 10000
set_option maxHeartbeats 1000000
set_option linter.unusedVariables false
set_option linter.unusedSimpArgs false
attribute [local irreducible] WP WPs FnX IterX YdX RetP PanP Ch Back Join
theorem do_shape {w w' : Wd} {e : Ev} (h : doW w e = some w') : bareE e = true ∨ fullE e = true := by
  unfold doW mergeW splitW windW upW at h
  repeat' (first | (split at h) | (cases h; done))
  all_goals
    simp only [Bool.not_eq_false, Bool.and_eq_true] at *
    first
    | (have hb : bareE e = true := by simp_all
       exact .inl hb)
    | (have hb : fullE e = true := by simp_all
       exact .inr hb)
theorem step_shape {w w' : Wd} {e : Ev} (h : stepW w e = some w') : bareE e = true ∨ fullE e = true := by
  unfold stepW at h
  split at h
  · cases h
  · split at h
    · cases h
    · rename_i hd; exact do_shape hd
theorem runL_shape : ∀ {l : List Ev} {w : Wd} {i : Int}, (runL w l i).2.2 = 0 → ∀ e ∈ l, bareE e = true ∨ fullE e = true
  | [], _, _, _, e, he => by cases he
  | x :: l, w, i, h, e, he => by
    simp only [runL] at h
    split at h
    · rename_i w' hs
      rcases List.mem_cons.1 he with rfl | he
      · exact step_shape hs
      · exact runL_shape h e he
    · cases h
theorem run_shape {w : Wd} {l : List Ev} (h : (runM w l).2.2 = 0) : l.length ≤ 20 ∧ ∀ e ∈ l, -1000000000000 ≤ e.m ∧ e.m ≤ 1000000000000 := by
  unfold runM at h
  split at h
  · cases h
  · rename_i hc
    refine ⟨by simp at hc; omega, fun e he => ?_⟩
    rcases runL_shape h e he with hb | hb
    · have : e.m = 0 := by simp [bareE] at hb; exact hb.2
      omega
    · exact full_money hb
def debtE (cur : List Dbt) (e : Ev) : List Dbt :=
  if e.kind = 1 then renamedM cur e.a e.b else if e.kind = 2 then owedM cur e.a e.b e.m else if e.kind = 3 then renamedM (owedM cur e.a e.b e.m) e.a e.c else cur
def badD (d : Dbt) : Bool := !carOk d.fr || !carOk d.to
def debtsM (w : Wd) (l : List Ev) (ds : List Dbt) : List Dbt × Int := if (decide ((runM w l).2.2 ≠ 0) || (List.range ds.length).any (fun k => badD (ds.getD k dD))) = true then ([], 420) else (l.foldl debtE ds, 0)
theorem owed_len (l : List Dbt) (a b m : Int) : (owedM l a b m).length ≤ l.length + 1 := by
  unfold owedM; split
  · simp
  · split <;> simp
theorem ren_len (l : List Dbt) (a b : Int) : (renamedM l a b).length ≤ l.length := by
  unfold renamedM; exact Nat.le_trans (List.length_filter_le _ _) (by simp)
theorem debtE_len (l : List Dbt) (e : Ev) : (debtE l e).length ≤ l.length + 1 := by
  unfold debtE
  have h1 := owed_len l e.a e.b e.m
  have h2 := ren_len l e.a e.b
  have h3 := ren_len (owedM l e.a e.b e.m) e.a e.c
  split
  · omega
  · split
    · omega
    · split <;> omega
structure DbI (l : List Ev) (ds : List Dbt) where
  k : Nat
  cur : List Dbt
  v : AV
  hd : AHeap
  hk : k ≤ l.length
  hcur : cur = (l.take k).foldl debtE ds
  hl : cur.length ≤ ds.length + k
  hD : DebtsAt cur v hd
theorem fold_succ {l : List Ev} {ds : List Dbt} {k : Nat} (h : k < l.length) : (l.take (k + 1)).foldl debtE ds = debtE ((l.take k).foldl debtE ds) (l.getD k dE) := by
  have e : l.take (k + 1) = l.take k ++ [l.getD k dE] := by rw [List.take_add_one, List.getElem?_eq_getElem h]; simp [h]
  rw [e, List.foldl_append]; rfl
theorem debts_frz {l : List Dbt} {v : AV} {h : AHeap} (hd : DebtsAt l v h) : ∃ f, FrzA h [] v (V (l.map encD) f) := by
  rcases hd with ⟨rfl, rfl, rfl⟩ | ⟨b, cap, hc, rfl, rfl⟩
  · exact ⟨true, .refl _⟩
  · exact ⟨false, frz_os List.mem_cons_self (by simp) hc⟩

theorem badD_spec (d : Dbt) : Fn1 Tryz.prog 84 [.agg [I d.fr, I d.to, I d.m]] (B (badD d)) := by
 refine fnE_intro (N := 13) Tryz.func84 rfl rfl rfl ?_
 intro X
 refine h_seq<|H<|o_box Z Z K fun x1 => S Z K<|o_nil<|h_seq<|H<|F Z Z K K<|O 0 Z Z Z Z K<|o_call1 Z Z EntC.out K (misCarrier_spec _)<|o_not Z K<|G Z K ?_
 refine o_guard Z Z K (fun g3 => ?_) (fun g3 => ?_)
 ·
  have g3 : _ = false := g3
  exact F Z Z K K<|W Z Z g3 K<|O 0 Z Z Z Z K<|W Z Z g3 K<|o_call1 Z Z EntC.out K (misCarrier_spec _)<|W Z Z g3 K<|o_not Z K<|o_pickf Z g3 rfl K<|S Z K<|o_nil<|h_ret<|ret1' Z (B_eq (by unfold badD; simp_all))
 ·
  have g3 : _ = true := g3
  exact U Z Z g3 K<|U Z Z g3 K<|U Z Z g3 K<|o_pickt Z g3 rfl K<|S Z K<|o_nil<|h_ret<|ret1' Z (B_eq (by unfold badD; simp_all))

theorem bad_hp (ds : List Dbt) : ∀ k (hk : k < ds.length), Fc Tryz.prog 84 ([.agg [I ds[k].fr, I ds[k].to, I ds[k].m]] ++ []) [] (fun r h' => r = B (badD (ds.getD k dD)) ∧ h' = []) := fun k hk => by
  have e : ds.getD k dD = ds[k] := by simp [hk]
  rw [e]
  exact badD_spec ds[k]

theorem debts_spec (w : Wd) (l : List Ev) (hlen : l.length ≤ 1000000000) (f1 f2 f3 f : Bool) (ds : List Dbt) (hds : ds.length ≤ 900000000) (fd : Bool) : Fc Tryz.prog 26 [encW w f1 f2 f3, V (l.map encV) f, V (ds.map encD) fd] [] (fun r h' => (∃ f', r = .tup [V ((debtsM w l ds).1.map encD) f', I (debtsM w l ds).2]) ∧ h' = []) := by
 refine fnE_intro (N := 74) Tryz.func26 rfl rfl rfl ?_
 intro X
 refine h_seq<|H<|o_box Z Z K fun x5 => S Z K<|S Z K<|o_nil<|h_seq<|H<|O 0 Z Z Z Z K<|G Z K<|o_callN Z Z EntC.out K (run_spec w l hlen f1 f2 f3 f) fun v h' hr => ?_
 obtain ⟨rfl, r1, r2, r3, rfl⟩ := hr
 refine G Z K<|o_extract Z Z K<|o_extract Z Z K<|o_extract Z Z K<|o_alloc K fun x6 => ?_
 refine o_store 0 Z Z Z Z Z Z<|S Z K<|S Z K<|o_nil<|h_seq<|H<|S Z K<|o_nil<|h_seq<|h_seq<|H<|G Z K ?_
 refine o_cmp Z Z Z K<|G Z K<|o_guard Z Z K (fun g8 => ?_) (fun g8 => ?_)
 ·
  have g8 : _ = false := g8
  refine G Z K<|W Z Z g8 K<|G Z K<|W Z Z g8 K<|o_callN Z Z EntC.out K (dbtContains ds (by omega) fd 84 [] (fun _ => []) (fun k => badD (ds.getD k dD)) (bad_hp ds)) fun v h' hr => ?_
  obtain ⟨rfl, rfl⟩ := hr
  refine o_pickf Z g8 rfl K<|o_nil<|h_cond Z (fun c10 => ?_) (fun c10 => ?_)
  ·
   refine h_seq<|H<|S Z K<|S Z K<|o_nil<|h_ret ?_
   have hq : debtsM w l ds = ([], 420) := (by unfold debtsM; rw [if_pos (by simp_all)])
   exact retG [] (.cons (resT rfl) (.cons (resT rfl) .nil)) (List.nil_sublist _) ⟨_, rfl, ⟨true, by rw [hq]; rfl⟩, rfl⟩
  ·
   refine h_skip<|h_seq<|H<|G Z K ?_
   have hok : (runM w l).2.2 = 0 := by simp_all
   have hsh := run_shape hok
   refine o_callN Z Z EntC.out K (cloneD_spec ds (by omega) fd) fun v0 h0 hD0 => o_drop h0 (List.sublist_append_left _ _)<|S Z K<|o_nil<|h_seq<|h_seq<|H<|G Z K<|o_len Z K<|G Z K<|o_nil<|h_block ?_
   refine h_famS (ι := DbI l ds) (fun i => [(1, V (l.map encV) f), (12, i.v), (31, V (l.map encV) f), (32, I (((l.map encV).length : Nat) : Int)), (33, I (i.k : Nat))]) (fun i => i.hd) (fun i => l.length - i.k) ⟨0, ds, v0, h0, Nat.zero_le _, rfl, by omega, hD0⟩ (.refl _) (subT.cons Z (subT.cons Z (subT.cons Z (subT.cons Z (subT.cons Z subT.nil))))) ?_
   rintro ⟨k, cur, v, hd, hk, hcur, hl, hD⟩
   dsimp only
   have h20 := hsh.1
   by_cases hlt : k < l.length
   ·
    obtain ⟨e, hee⟩ : ∃ e, e = l.getD k dE := ⟨_, rfl⟩
    have hem : -1000000000000 ≤ e.m ∧ e.m ≤ 1000000000000 := hsh.2 e (by rw [hee]; simp [hlt])
    refine h_seq<|H<|o_cmp Z Z Z K<|o_nil<|h_seq<|h_condt Z (by simp; omega) ?_
    refine h_skip<|h_seq<|h_block<|h_seq<|H<|o_idxv Z Z (by omega) (show _ = some (encV e) from (by rw [eltV (by simpa using hlt)]; simp only [Int.toNat_natCast]; rw [← hee])) rfl K ?_
    refine o_loadv Z Z K<|o_alloc K fun x12 => ?_
    refine o_store 0 Z Z Z Z Z Z<|o_nil<|h_seq<|H<|F Z Z K K<|O 0 Z Z Z Z K<|o_nil<|h_block<|h_seq<|H<|o_cmp Z Z Z K<|S Z K ?_
    refine o_nil<|h_cond Z (fun c14 => ?_) (fun c14 => ?_)
    ·
     refine H<|G Z K<|F Z Z K K<|O 0 Z Z Z Z K<|F Z Z K K<|O 0 Z Z Z Z K<|o_callR (h2 := [_]) rfl rfl rfl EntC.out K (renamed_spec cur (by have := owed_len cur e.a e.b e.m; omega) v hd hD e.a e.b) fun v2 h2 hD2 => ?_
     refine S Z K<|o_nil<|H<|o_add Z Z (by unfold in64; (try dsimp only); omega) K ?_
     refine G Z K<|o_nil ?_
     have hq : (renamedM cur e.a e.b) = debtE cur e := by unfold debtE; simp_all
     refine back rfl ⟨k + 1, (renamedM cur e.a e.b), v2, h2, hlt, (by rw [fold_succ hlt, ← hcur, ← hee]; exact hq), (by rw [hq]; have := debtE_len cur e; omega), hD2⟩ (by dsimp only; omega) (.cons _ (.refl _)) (subT.cons Z (subT.cons Z (subT.cons Z (subT.cons Z (subT.cons Z subT.nil)))))
    ·
     refine h_seq<|H<|o_cmp Z Z Z K<|S Z K<|o_nil<|h_cond Z (fun c16 => ?_) (fun c16 => ?_)
     ·
      refine H<|G Z K<|F Z Z K K<|O 0 Z Z Z Z K<|F Z Z K K<|O 0 Z Z Z Z K<|F Z Z K K<|O 0 Z Z Z Z K<|o_callR (h2 := [_]) rfl rfl rfl EntC.out K (owed_spec cur (by omega) v hd hD e.a e.b e.m hem) fun v1 h1 hD1 => S Z K<|o_nil<|H ?_
      refine o_add Z Z (by unfold in64; (try dsimp only); omega) K ?_
      refine G Z K<|o_nil ?_
      have hq : (owedM cur e.a e.b e.m) = debtE cur e := by unfold debtE; simp_all
      refine back rfl ⟨k + 1, (owedM cur e.a e.b e.m), v1, h1, hlt, (by rw [fold_succ hlt, ← hcur, ← hee]; exact hq), (by rw [hq]; have := debtE_len cur e; omega), hD1⟩ (by dsimp only; omega) (.cons _ (.refl _)) (subT.cons Z (subT.cons Z (subT.cons Z (subT.cons Z (subT.cons Z subT.nil)))))
     ·
      refine h_seq<|H<|o_cmp Z Z Z K<|S Z K<|o_nil<|h_cond Z (fun c18 => ?_) (fun c18 => ?_)
      ·
       refine h_draw _ (.cons_cons _ (List.nil_sublist _)) [(0, .flo), (1, .flo), (2, .box), (3, .flo), (4, .box), (5, .flo), (6, .box), (8, .flo), (9, .box), (10, .flo), (11, .box), (7, .act), (12, .act), (13, .flo)] mixed (by kernel_rfl)<|C Z Z (fun jj => G Z K jj)<|C Z Z (fun jj => F Z Z K K jj)<|c_box Z Z (fun _ _ _ _ jj => O 0 Z Z Z Z K jj)<|C Z Z (fun jj => F Z Z K K jj)<|c_box Z Z (fun _ _ _ _ jj => O 0 Z Z Z Z K jj)<|C Z Z (fun jj => F Z Z K K jj)<|c_box Z Z (fun _ _ _ _ jj => O 0 Z Z Z Z K jj)<|C Z Z (fun jj => F Z Z K K jj)<|c_box Z Z (fun _ _ _ _ jj => O 0 Z Z Z Z K jj)<|C Z Z (fun jj => F Z Z K K jj)<|c_box Z Z (fun _ _ _ _ jj => O 0 Z Z Z Z K jj) ?_
       refine c_act (ι := {p : AV × AHeap // DebtsAt (owedM cur e.a e.b e.m) p.1 p.2}) (fun p => p.1.1) (fun p => [(x12, .box 41 [I e.kind, I e.t, I e.a, I e.b, I e.c, I e.f, I e.to, I e.m])] ++ p.1.2) (fun _ => (.cons_cons _ (List.nil_sublist _))) rfl rfl (fun X r Q ds k => o_callR (h2 := [_]) rfl rfl rfl EntC.out K (owed_spec cur (by omega) v hd hD e.a e.b e.m hem) fun v1 h1 hD1 => k ⟨(v1, h1), hD1⟩) fun p1 => c_act (ι := {p : AV × AHeap // DebtsAt (renamedM (owedM cur e.a e.b e.m) e.a e.c) p.1 p.2}) (fun p => p.1.1) (fun p => [(x12, .box 41 [I e.kind, I e.t, I e.a, I e.b, I e.c, I e.f, I e.to, I e.m])] ++ p.1.2) (fun _ => (.cons_cons _ (List.nil_sublist _))) rfl rfl (fun X r Q ds k => o_callR (h2 := [_]) rfl rfl rfl EntC.out K (renamed_spec (owedM cur e.a e.b e.m) (by have := owed_len cur e.a e.b e.m; omega) p1.1.1 p1.1.2 p1.2 e.a e.c) fun v2 h2 hD2 => k ⟨(v2, h2), hD2⟩) fun p2 => ?_
       refine C Z Z (fun jj => S Z K jj)<|c_nil<|H<|o_add Z Z (by unfold in64; (try dsimp only); omega) K ?_
       refine G Z K<|o_nil ?_
       have hq : (renamedM (owedM cur e.a e.b e.m) e.a e.c) = debtE cur e := by unfold debtE; simp_all
       refine back rfl ⟨k + 1, (renamedM (owedM cur e.a e.b e.m) e.a e.c), p2.1.1, p2.1.2, hlt, (by rw [fold_succ hlt, ← hcur, ← hee]; exact hq), (by rw [hq]; have := debtE_len cur e; omega), p2.2⟩ (by dsimp only; omega) (.cons _ (.refl _)) (subT.cons Z (subT.cons Z (subT.cons Z (subT.cons Z (subT.cons Z subT.nil)))))
      ·
       refine h_skip<|H<|o_add Z Z (by unfold in64; (try dsimp only); omega) K ?_
       refine G Z K<|o_nil ?_
       have hq : cur = debtE cur e := by unfold debtE; simp_all
       refine back rfl ⟨k + 1, cur, v, hd, hlt, (by rw [fold_succ hlt, ← hcur, ← hee]; exact hq), (by rw [hq]; have := debtE_len cur e; omega), hD⟩ (by dsimp only; omega) (.cons _ (.refl _)) (subT.cons Z (subT.cons Z (subT.cons Z (subT.cons Z (subT.cons Z subT.nil)))))
   ·
    obtain rfl : k = l.length := by omega
    refine h_seq<|H<|o_cmp Z Z Z K<|o_nil<|h_seq<|h_condf Z (by simp) ?_
    refine h_exit<|h_seq<|H<|G Z K<|S Z K<|S Z K<|o_nil<|h_ret ?_
    have hq : debtsM w l ds = (l.foldl debtE ds, 0) := (by unfold debtsM; rw [if_neg (by simp_all)])
    rw [List.take_length] at hcur
    obtain ⟨f', hf⟩ := debts_frz hD
    exact retF (.cons (resT rfl) (.cons (resT rfl) .nil)) (frz_tup2 hf (.refl _)) ⟨_, rfl, ⟨f', by rw [hq, ← hcur]; rfl⟩, rfl⟩
 ·
  have g8 : _ = true := g8
  refine U Z Z g8 K<|U Z Z g8 K<|o_pickt Z g8 rfl K<|o_nil<|h_condt Z Z<|h_seq<|H<|S Z K<|S Z K<|o_nil<|h_ret ?_
  have hq : debtsM w l ds = ([], 420) := (by unfold debtsM; rw [if_pos (by simp_all)])
  exact retG [] (.cons (resT rfl) (.cons (resT rfl) .nil)) (List.nil_sublist _) ⟨_, rfl, ⟨true, by rw [hq]; rfl⟩, rfl⟩

end Go.Proofs.YtnoicbajhlpndaaGreat
