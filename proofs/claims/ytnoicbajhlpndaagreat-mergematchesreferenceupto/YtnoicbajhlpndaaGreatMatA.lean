/- The walks of the reference's Until, Run, At. -/
import Derived.Test.YtnoicbajhlpndaaGreatTimeA
namespace Go.Proofs.YtnoicbajhlpndaaGreat
open Go Go.RowKit Go.Shelf Hp
set_option maxRecDepth 10000
set_option maxHeartbeats 1000000
set_option linter.unusedVariables false
set_option linter.unusedSimpArgs false
set_option linter.unnecessarySimpa false
attribute [local irreducible] WP WPs FnX IterX YdX RetP PanP Ch Back Join
theorem until_cut {t : Int} : ∀ {l : List Ev} {k : Nat}, k ≤ l.length → (∀ j, j < k → (l.getD j dE).t ≤ t) → (k = l.length ∨ ¬ (l.getD k dE).t ≤ t) → untilM l t = l.take k
  | [], k, h, _, _ => by simp [untilM]
  | e :: l, 0, _, _, h => by
    rcases h with h | h
    · simp at h
    · have h0 : ¬ e.t ≤ t := h
      simp [untilM, List.takeWhile_cons, h0]
  | e :: l, k + 1, h, h1, h2 => by
    have h0 : e.t ≤ t := h1 0 (by omega)
    have ih := until_cut (l := l) (k := k) (by simpa using h) (fun j hj => h1 (j + 1) (by omega)) (by rcases h2 with h2 | h2; exact .inl (by simpa using h2); exact .inr h2)
    simp only [untilM] at ih
    simp [untilM, List.takeWhile_cons, h0, ih]
theorem stepM_cases {w : Wd} (e : Ev) (hv : VParts w) : (∃ w', stepW w e = some w' ∧ stepM w e = (w', 0)) ∨ (stepW w e = none ∧ stepM w e = (wd0, 420)) := by
  unfold stepM
  rw [if_pos ((valid_iff w).2 hv)]
  cases h : stepW w e with
  | none => exact .inr ⟨rfl, rfl⟩
  | some w' => exact .inl ⟨w', rfl, rfl⟩
theorem inR_M (n a b : Int) : inR n a b = inM n a b := rfl
theorem valid42_spec (w : Wd) (hbs : w.blocks.length ≤ 1000000000) (f1 f2 f3 : Bool) : Fn1 Tryz.prog 19 [encW w f1 f2 f3] (B (validW w)) := by
  have := rvalidW_spec w hbs f1 f2 f3
  rwa [rvalidW_eq] at this

theorem until42_spec (l : List Ev) (hlen : l.length ≤ 1000000000) (f : Bool) (t : Int) : Fn1 Tryz.prog 83 [V (l.map encV) f, I t] (V ((untilM l t).map encV) true) := by
 refine fnE_intro (N := 25) Tryz.func83 rfl rfl rfl ?_
 intro X
 refine h_seq<|H<|S Z K<|o_nil<|h_seq<|H<|S Z K<|o_nil<|h_seq<|h_block<|h_famS (ι := {k : Nat // k ≤ l.length ∧ ∀ j, j < k → (l.getD j dE).t ≤ t}) (fun i => [(0, V (l.map encV) f), (1, I t), (5, I (i.1 : Nat))]) (fun i => []) (fun i => l.length - i.1) ⟨0, Nat.zero_le _, fun j hj => absurd hj (Nat.not_lt_zero j)⟩ (.refl _) (subT.cons Z (subT.cons Z (subT.cons Z subT.nil))) ?_
 rintro ⟨k, hk, hok⟩
 dsimp only
 by_cases hlt : k < l.length
 ·
  refine h_seq<|h_seq<|H<|G Z K<|G Z K<|o_len Z K<|o_cmp Z Z Z K<|G Z K<|W Z Z (by simp; omega) K ?_
  refine G Z K<|W Z Z (by simp; omega) K ?_
  refine G Z K<|W Z Z (by simp; omega) K ?_
  refine o_idxv Z Z (by omega) (eltV (by simpa using hlt)) rfl K ?_
  refine W Z Z (by simp; omega) K ?_
  refine o_faddrv Z Z K rfl K<|W Z Z (by simp; omega) K ?_
  refine o_loadv Z Z K<|W Z Z (by simp; omega) K ?_
  refine G Z K<|W Z Z (by simp; omega) K ?_
  refine o_cmp Z Z Z K<|o_pickt Z (by simp; omega) rfl K ?_
  refine o_nil<|h_cond Z (fun c3 => ?_) (fun c3 => ?_)
  ·
   refine h_skip<|h_block<|H<|G Z K<|o_add Z Z (by unfold in64; (try dsimp only); omega) K ?_
   refine S Z K<|o_nil ?_
   have ht : (l.getD k dE).t ≤ t := by simpa using c3
   refine back rfl ⟨k + 1, hlt, fun j hj => (by rcases Nat.lt_succ_iff_lt_or_eq.1 hj with h1 | h1; exact hok j h1; subst h1; exact ht)⟩ (by dsimp only; omega) (.refl _) (subT.cons Z (subT.cons Z (subT.cons Z subT.nil)))
  ·
   refine h_exit<|h_seq<|H<|G Z K<|G Z K<|G Z K<|o_front3 Z Z Z (by omega) (by simp; try omega) (by simp [encV]) K ?_
   refine S Z K<|o_nil<|h_ret ?_
   have hq : untilM l t = l.take k := until_cut (by omega) hok (.inr (by simpa using c3))
   refine ret1' Z ?_
   simp only [hq, List.map_take, Int.toNat_natCast]
 ·
  obtain rfl : k = l.length := by omega
  refine h_seq<|h_seq<|H<|G Z K<|G Z K<|o_len Z K<|o_cmp Z Z Z K<|G Z K<|U Z Z (by simp <;> omega) K ?_
  refine U Z Z (by simp <;> omega) K ?_
  refine U Z Z (by simp <;> omega) K ?_
  refine U Z Z (by simp <;> omega) K ?_
  refine U Z Z (by simp <;> omega) K ?_
  refine U Z Z (by simp <;> omega) K ?_
  refine U Z Z (by simp <;> omega) K ?_
  refine o_pickf Z (by simp <;> omega) rfl K ?_
  refine o_nil<|h_condf Z Z<|h_exit<|h_seq<|H<|G Z K<|G Z K<|G Z K<|o_front3 Z Z Z (by omega) (by simp; try omega) (by simp [encV]) K ?_
  refine S Z K<|o_nil<|h_ret ?_
  have hq : untilM l t = l.take l.length := until_cut (Nat.le_refl _) hok (.inl rfl)
  refine ret1' Z ?_
  simp only [hq, List.map_take, Int.toNat_natCast]

theorem run42_spec (w : Wd) (l : List Ev) (hbs : w.blocks.length ≤ 1000000000) (hlen : l.length ≤ 1000000000) (f1 f2 f3 f : Bool) : Fc Tryz.prog 22 [encW w f1 f2 f3, V (l.map encV) f] [] (RunR (runM w l)) := by
 refine fnE_intro (N := 65) Tryz.func22 rfl rfl rfl ?_
 intro X
 refine h_seq<|H<|o_box Z Z K fun x5 => o_alloc K fun x6 => S Z K<|S Z K<|o_nil<|h_seq<|h_seq<|H<|O 1 Z Z Z Z K<|o_call1 Z Z EntC.out K (valid42_spec w hbs f1 f2 f3) ?_
 refine o_not Z K<|G Z K<|o_guard Z Z K (fun g8 => ?_) (fun g8 => ?_)
 ·
  have g8 : _ = false := g8
  refine G Z K<|W Z Z g8 K<|o_len Z K<|W Z Z g8 K<|o_cmp Z Z Z K<|o_pickf Z g8 rfl K<|o_nil<|h_cond Z (fun c10 => ?_) (fun c10 => ?_)
  ·
   refine h_seq<|H<|o_build Z Z K ?_
   refine o_store 0 Z Z Z Z Z Z<|S Z K<|S Z K<|o_nil<|h_ret ?_
   have hq : runM w l = (wd0, 0, 420) := (by simp only [runM]; rw [if_pos (by simp_all)])
   exact retG [] (.cons (resC 0 rfl rfl rfl) (.cons (resT rfl) (.cons (resT rfl) .nil))) (List.nil_sublist _) ⟨_, rfl, rfl, true, true, true, by rw [hq]; rfl⟩
  ·
   refine h_skip<|h_seq<|h_seq<|H<|S Z K<|o_nil<|h_block ?_
   have hvv : validW w = true := by simp_all
   have h20 : ¬ (20 < (l.length : Int)) := by simp_all
   have hvp := (valid_iff w).1 hvv
   refine h_famS (ι := {k : Nat // 1 ≤ k ∧ (k ≤ l.length ∨ k = 1) ∧ ∀ j, j + 1 < k → badS l j = false}) (fun i => [(1, V (l.map encV) f), (2, .ptr x5 0), (4, .ptr x6 0), (7, I (i.1 : Nat))]) (fun i => (x6, .box 32 [I 0, I 0, V [] true, V [] true, V [] true]) :: (x5, .box 32 (cellsW w f1 f2 f3)) :: []) (fun i => l.length - i.1) ⟨1, Nat.le_refl _, .inr rfl, fun j hj => absurd hj (by omega)⟩ (.cons_cons _ (.cons_cons _ (.refl _))) (subT.cons Z (subT.cons Z (subT.cons Z (subT.cons Z subT.nil)))) ?_
   rintro ⟨k, hk1, hk2, hok⟩
   dsimp only
   by_cases hlt : k < l.length
   ·
    have hj1 : k - 1 + 1 = k := by omega
    have hj2 : (((k : Nat) : Int) - 1).toNat = k - 1 := by omega
    refine h_seq<|h_seq<|H<|G Z K<|G Z K<|o_len Z K<|o_cmp Z Z Z K<|o_nil<|h_condt Z (by simp; omega) ?_
    refine h_skip<|h_seq<|h_block<|h_seq<|h_draw _ (List.nil_sublist _) [(0, .flo), (1, .flo), (2, .flo), (3, .flo), (4, .val), (5, .flo), (6, .flo), (7, .flo), (8, .flo), (9, .flo), (10, .val), (11, .flo)] mixed (by kernel_rfl)<|C Z Z (fun jj => G Z K jj)<|C Z Z (fun jj => G Z K jj)<|C Z Z (fun jj => o_idxv Z Z (by omega) (eltV (by simpa using hlt)) rfl K jj) ?_
    refine C Z Z (fun jj => o_faddrv Z Z K rfl K jj)<|c_val Z Z (fun _ _ _ _ jj => o_loadv Z Z K jj)<|C Z Z (fun jj => G Z K jj)<|C Z Z (fun jj => G Z K jj)<|C Z Z (fun jj => o_sub Z Z (by unfold in64; (try dsimp only); omega) K jj) ?_
    refine C Z Z (fun jj => o_idxv Z Z (by omega) (eltV (by omega)) rfl K jj)<|C Z Z (fun jj => o_faddrv Z Z K rfl K jj)<|c_val Z Z (fun _ _ _ _ jj => o_loadv Z Z K jj)<|C Z Z (fun jj => o_cmp Z Z Z K jj)<|c_nil<|h_cond Z (fun c13 => ?_) (fun c13 => ?_)
    ·
     refine h_seq<|H<|o_build Z Z K ?_
     refine o_store 0 Z Z Z Z Z Z<|S Z K<|S Z K<|o_nil<|h_ret ?_
     have hso : sortedM l = false := by simp only [sortedM]; rw [List.any_eq_true.2 ⟨k - 1, List.mem_range.2 (by omega), (by simp only [badS, hj1]; simpa only [hj2, Int.toNat_natCast] using c13)⟩]; rfl
     have hq : runM w l = (wd0, 0, 420) := (by simp only [runM]; rw [if_pos (by rw [hso]; simp)])
     exact retG [] (.cons (resC 0 rfl rfl rfl) (.cons (resT rfl) (.cons (resT rfl) .nil))) (List.nil_sublist _) ⟨_, rfl, rfl, true, true, true, by rw [hq]; rfl⟩
    ·
     refine h_skip<|H<|G Z K<|o_add Z Z (by unfold in64; (try dsimp only); omega) K ?_
     refine S Z K<|o_nil ?_
     have hbad : badS l (k - 1) = false := by simp only [badS, hj1]; simpa only [hj2, Int.toNat_natCast] using c13
     refine back rfl ⟨k + 1, by omega, .inl hlt, fun j hj => (by rcases Nat.lt_succ_iff_lt_or_eq.1 hj with h1 | h1; exact hok j h1; obtain rfl : j = k - 1 := (by omega); exact hbad)⟩ (by dsimp only; omega) (.cons_cons _ (.cons_cons _ (.refl _))) (subT.cons Z (subT.cons Z (subT.cons Z (subT.cons Z subT.nil))))
   ·
    have hso : sortedM l = true := by simp only [sortedM, any_no (n := l.length - 1) (p := badS l) (fun j hj => hok j (by omega))]; rfl
    refine h_seq<|h_seq<|H<|G Z K<|G Z K<|o_len Z K<|o_cmp Z Z Z K<|o_nil<|h_condf Z (by simp <;> omega) ?_
    refine h_exit<|h_seq<|H<|O 1 Z Z Z Z K<|o_callN Z Z EntC.out K (copy42_spec w f1 f2 f3 hbs hvp.lb hvp.ll) fun v h' hr => ?_
    obtain ⟨fc, b1, b2, c1, c2, hc1, hc2, rfl, rfl⟩ := hr
    refine o_alloc K fun x15 => ?_
    refine o_store 0 Z Z Z Z Z Z<|o_nil<|h_seq<|h_seq<|h_frzR w fc x15 b1 b2 c1 c2 hvp.lb hvp.ll hc1 hc2 (rest := [(x6, .box 32 [I 0, I 0, V [] true, V [] true, V [] true]), (x5, .box 32 (cellsW w f1 f2 f3))])<|H<|S Z K<|o_nil<|h_block<|h_famS (ι := RunI w l) (fun i => [(1, V (l.map encV) f), (4, .ptr x6 0), (8, .ptr x15 0), (9, I (i.k : Nat))]) (fun i => (x15, .box 32 (cellsW i.wk i.f1 i.f2 i.f3)) :: (x6, .box 32 [I 0, I 0, V [] true, V [] true, V [] true]) :: []) (fun i => l.length - i.k) ⟨0, w, fc, false, false, Nat.zero_le _, rfl, hvp⟩ (.cons_cons _ (.cons_cons _ (.cons _ (.refl _)))) (subT.cons Z (subT.cons Z (subT.cons Z (subT.cons Z subT.nil)))) ?_
    rintro ⟨k, wk, g1, g2, g3, hk, hr, hv⟩
    dsimp only
    by_cases hlt : k < l.length
    ·
     rcases stepM_cases (l.getD k dE) hv with ⟨w', hs, hsm⟩ | ⟨hs, hsm⟩
     ·
      refine h_seq<|h_seq<|H<|G Z K<|G Z K<|o_len Z K<|o_cmp Z Z Z K<|o_nil<|h_condt Z (by simp; omega) ?_
      refine h_skip<|h_seq<|h_block<|h_seq<|h_drawA _ (.cons_cons _ (.cons_cons _ (List.nil_sublist _))) [(0, .box), (1, .flo), (2, .flo), (3, .flo), (4, .val), (5, .new), (6, .flo), (7, .flo), (8, .flo), (9, .alc (.box 32 [I 0, I 0, V [] true, V [] true, V [] true])), (10, .sto), (11, .flo)] (alc_all ⟨alc_ok rfl K rfl, trivial⟩) mixed (by kernel_rfl)<|c_box Z Z (fun _ _ _ _ jj => O 0 Z Z Z Z K jj)<|C Z Z (fun jj => G Z K jj)<|C Z Z (fun jj => G Z K jj)<|C Z Z (fun jj => o_idxv Z Z (by omega) (eltV (by simpa using hlt)) rfl K jj) ?_
      refine c_val Z Z (fun _ _ _ _ jj => o_loadv Z Z K jj)<|c_newG (ι := Bool × Bool × Bool) (fun p => .tup [encW (w', (0 : Int)).1 p.1 p.2.1 p.2.2, I (w', (0 : Int)).2]) (fun _ => []) rfl rfl (fun X r Q ds k9 => o_callN Z Z EntC.out K (step42_spec wk (l.getD ((k : Nat) : Int).toNat dE) (by have := valid_len hv.blk; omega) g1 g2 g3) fun v h' hr => by rw [stepRM_eq, Int.toNat_natCast, hsm] at hr; obtain ⟨rfl, u1, u2, u3, rfl⟩ := hr; exact k9 (u1, u2, u3)) fun pr => ?_
      refine C Z Z (fun jj => G Z K jj)<|C Z Z (fun jj => o_extract Z Z K jj)<|C Z Z (fun jj => o_extract Z Z K jj)<|c_alc Z fun x17 => ?_
      refine c_sto (.cons _ (.cons_cons _ (.cons_cons _ (List.nil_sublist _)))) rfl rfl (fun _ _ _ _ jj => o_store 0 Z Z Z Z Z Z jj)<|C Z Z (fun jj => S Z K jj)<|c_nil<|h_seq<|h_seq<|H<|G Z K<|o_cmp Z Z Z K<|o_nil<|h_condf Z Z<|h_skip<|H ?_
      refine O 0 Z Z Z Z K ?_
      refine o_store 1 Z Z Z Z Z Z<|o_nil<|H<|G Z K<|o_add Z Z (by unfold in64; (try dsimp only); omega) K ?_
      refine S Z K<|o_nil<|back rfl ⟨k + 1, w', pr.1, pr.2.1, pr.2.2, hlt, (by rw [hr, drop_k hlt]; simp only [runL, hs]; rfl), (valid_iff w').1 (stepW_valid hs)⟩ (by dsimp only; omega) (.cons _ (.cons_cons _ (.cons_cons _ (.refl _)))) (subT.cons Z (subT.cons Z (subT.cons Z (subT.cons Z subT.nil))))
     ·
      refine h_seq<|h_seq<|H<|G Z K<|G Z K<|o_len Z K<|o_cmp Z Z Z K<|o_nil<|h_condt Z (by simp; omega) ?_
      refine h_skip<|h_seq<|h_block<|h_seq<|h_drawA _ (.cons_cons _ (.cons_cons _ (List.nil_sublist _))) [(0, .box), (1, .flo), (2, .flo), (3, .flo), (4, .val), (5, .new), (6, .flo), (7, .flo), (8, .flo), (9, .alc (.box 32 [I 0, I 0, V [] true, V [] true, V [] true])), (10, .sto), (11, .flo)] (alc_all ⟨alc_ok rfl K rfl, trivial⟩) mixed (by kernel_rfl)<|c_box Z Z (fun _ _ _ _ jj => O 0 Z Z Z Z K jj)<|C Z Z (fun jj => G Z K jj)<|C Z Z (fun jj => G Z K jj)<|C Z Z (fun jj => o_idxv Z Z (by omega) (eltV (by simpa using hlt)) rfl K jj) ?_
      refine c_val Z Z (fun _ _ _ _ jj => o_loadv Z Z K jj)<|c_newG (ι := Bool × Bool × Bool) (fun p => .tup [encW (wd0, (420 : Int)).1 p.1 p.2.1 p.2.2, I (wd0, (420 : Int)).2]) (fun _ => []) rfl rfl (fun X r Q ds k9 => o_callN Z Z EntC.out K (step42_spec wk (l.getD ((k : Nat) : Int).toNat dE) (by have := valid_len hv.blk; omega) g1 g2 g3) fun v h' hr => by rw [stepRM_eq, Int.toNat_natCast, hsm] at hr; obtain ⟨rfl, u1, u2, u3, rfl⟩ := hr; exact k9 (u1, u2, u3)) fun pr => ?_
      refine C Z Z (fun jj => G Z K jj)<|C Z Z (fun jj => o_extract Z Z K jj)<|C Z Z (fun jj => o_extract Z Z K jj)<|c_alc Z fun x20 => ?_
      refine c_sto (.cons _ (.cons_cons _ (.cons_cons _ (List.nil_sublist _)))) rfl rfl (fun _ _ _ _ jj => o_store 0 Z Z Z Z Z Z jj)<|C Z Z (fun jj => S Z K jj)<|c_nil<|h_seq<|h_seq<|H<|G Z K<|o_cmp Z Z Z K<|o_nil<|h_condt Z Z<|h_seq<|H ?_
      refine o_build Z Z K<|G Z K ?_
      refine o_store 2 Z Z Z Z Z Z<|S Z K<|S Z K<|o_nil<|h_ret ?_
      have hcn : ¬ (!validW w || decide (20 < (l.length : Int)) || !sortedM l) = true := by rw [hvv, hso, decide_eq_false h20]; decide
      have hq : runM w l = (wd0, (k : Int), 420) := (by simp only [runM]; rw [if_neg hcn, hr, drop_k hlt]; simp only [runL, hs])
      exact retG [] (.cons (resC 2 rfl rfl rfl) (.cons (resT rfl) (.cons (resT rfl) .nil))) (List.nil_sublist _) ⟨_, rfl, rfl, true, true, true, by rw [hq]; rfl⟩
    ·
     obtain rfl : k = l.length := by omega
     refine h_seq<|h_seq<|H<|G Z K<|G Z K<|o_len Z K<|o_cmp Z Z Z K<|o_nil<|h_condf Z (by simp <;> omega) ?_
     refine h_exit<|h_seq<|H<|O 0 Z Z Z Z K<|G Z K<|o_len Z K ?_
     refine o_store 1 Z Z Z Z Z Z<|S Z K<|S Z K<|o_nil<|h_ret ?_
     have hcn : ¬ (!validW w || decide (20 < (l.length : Int)) || !sortedM l) = true := by rw [hvv, hso, decide_eq_false h20]; decide
     have hq : runM w l = (wk, ((l.length : Nat) : Int), 0) := (by simp only [runM]; rw [if_neg hcn, hr, List.drop_length]; simp only [runL])
     rw [show ((l.length : Nat) : Int) = (((l.map encV).length : Nat) : Int) from by simp] at hq
     exact retG [] (.cons (resC 1 rfl rfl rfl) (.cons (resT rfl) (.cons (resT rfl) .nil))) (List.nil_sublist _) ⟨_, rfl, rfl, g1, g2, g3, by rw [hq]; rfl⟩
 ·
  have g8 : _ = true := g8
  refine U Z Z g8 K<|U Z Z g8 K<|o_pickt Z g8 rfl K<|o_nil<|h_condt Z Z<|h_seq<|H<|o_build Z Z K ?_
  refine o_store 0 Z Z Z Z Z Z<|S Z K<|S Z K<|o_nil<|h_ret ?_
  have hq : runM w l = (wd0, 0, 420) := (by simp only [runM]; rw [if_pos (by simp_all)])
  exact retG [] (.cons (resC 0 rfl rfl rfl) (.cons (resT rfl) (.cons (resT rfl) .nil))) (List.nil_sublist _) ⟨_, rfl, rfl, true, true, true, by rw [hq]; rfl⟩

theorem at42_spec (w : Wd) (l : List Ev) (t : Int) (hbs : w.blocks.length ≤ 1000000000) (hlen : l.length ≤ 1000000000) (f1 f2 f3 f : Bool) : Fc Tryz.prog 25 [encW w f1 f2 f3, V (l.map encV) f, I t] [] (fun r h' => h' = [] ∧ ∃ f1 f2 f3, r = .tup [encW (atMW w l t).1 f1 f2 f3, I (atMW w l t).2]) := by
 have hul := until_len l t; refine fnE_intro (N := 39) Tryz.func25 rfl rfl rfl ?_
 intro X
 refine h_seq<|H<|o_box Z Z K fun x23 => o_alloc K fun x24 => S Z K<|o_nil<|h_seq<|H<|O 1 Z Z Z Z K<|G Z K<|o_callN Z Z EntC.out K (run42_spec w l hbs hlen f1 f2 f3 f) fun v h' hr => ?_
 obtain ⟨rfl, r1, r2, r3, rfl⟩ := hr
 refine G Z K<|o_extract Z Z K<|o_extract Z Z K<|o_extract Z Z K<|o_alloc K fun x25 => ?_
 refine o_store 0 Z Z Z Z Z Z<|S Z K<|S Z K<|o_nil<|h_seq<|h_seq<|H<|G Z K<|o_cmp Z Z Z K<|G Z K<|o_guard Z Z K (fun g27 => ?_) (fun g27 => ?_)
 ·
  have g27 : _ = false := g27
  refine G Z K<|W Z Z g27 K<|o_call1 Z Z EntC.out K (in42_spec _ _ _)<|W Z Z g27 K<|o_not Z K<|o_pickf Z g27 rfl K<|o_nil<|h_cond Z (fun c29 => ?_) (fun c29 => ?_)
  ·
   refine h_seq<|H<|o_build Z Z K ?_
   refine o_store 1 Z Z Z Z Z Z<|S Z K<|o_nil<|h_ret ?_
   have hq : atMW w l t = (wd0, 420) := by unfold atMW possM; rw [if_neg (by rw [← inR_M]; first | (simp_all; done) | (simp_all; intro q; simp_all))]
   exact retG [] (.cons (resC 1 rfl rfl rfl) (.cons (resT rfl) .nil)) (List.nil_sublist _) ⟨_, rfl, rfl, true, true, true, by rw [hq]; rfl⟩
  ·
   refine h_skip<|h_seq<|h_drawA _ (.cons_cons _ (.cons_cons _ (.cons_cons _ (List.nil_sublist _)))) [(0, .box), (1, .flo), (2, .flo), (3, .flo), (4, .new), (5, .flo), (6, .flo), (7, .flo), (8, .flo), (9, .alc (.box 32 [I 0, I 0, V [] true, V [] true, V [] true])), (10, .sto), (11, .flo), (12, .flo)] (alc_all ⟨alc_ok rfl K rfl, trivial⟩) mixed (by kernel_rfl)<|c_box Z Z (fun _ _ _ _ jj => O 2 Z Z Z Z K jj)<|C Z Z (fun jj => G Z K jj)<|C Z Z (fun jj => G Z K jj)<|C Z Z (fun jj => o_call1 Z Z EntC.out K (until42_spec l hlen f t) jj)<|c_newG (ι := Bool × Bool × Bool) (fun p => .tup [encW (runM w (untilM l t)).1 p.1 p.2.1 p.2.2, I (runM w (untilM l t)).2.1, I (runM w (untilM l t)).2.2]) (fun _ => []) rfl rfl (fun X r Q ds k => o_callN Z Z EntC.out K (run42_spec w (untilM l t) hbs (by omega) f1 f2 f3 true) fun v h' hr => by obtain ⟨rfl, g1, g2, g3, rfl⟩ := hr; exact k (g1, g2, g3)) fun pr => C Z Z (fun jj => G Z K jj)<|C Z Z (fun jj => o_extract Z Z K jj)<|C Z Z (fun jj => o_extract Z Z K jj)<|C Z Z (fun jj => o_extract Z Z K jj) ?_
   refine c_alc Z fun x30 => ?_
   refine c_sto (.cons _ (.cons_cons _ (.cons_cons _ (.cons_cons _ (List.nil_sublist _))))) rfl rfl (fun _ _ _ _ jj => o_store 0 Z Z Z Z Z Z jj)<|C Z Z (fun jj => S Z K jj)<|C Z Z (fun jj => S Z K jj)<|c_nil<|h_seq<|H<|O 0 Z Z Z Z K ?_
   refine o_store 2 Z Z Z Z Z Z<|S Z K<|o_nil<|h_ret ?_
   have hq : atMW w l t = ((runM w (untilM l t)).1, 0) := by unfold atMW possM; rw [if_pos (by rw [← inR_M]; simp_all)]
   exact retG [] (.cons (resC 2 rfl rfl rfl) (.cons (resT rfl) .nil)) (List.nil_sublist _) ⟨_, rfl, rfl, pr.1, pr.2.1, pr.2.2, by rw [hq]; rfl⟩
 ·
  have g27 : _ = true := g27
  refine U Z Z g27 K<|U Z Z g27 K<|o_pickt Z g27 rfl K<|o_nil<|h_condt Z Z<|h_seq<|H<|o_build Z Z K ?_
  refine o_store 1 Z Z Z Z Z Z<|S Z K<|o_nil<|h_ret ?_
  have hq : atMW w l t = (wd0, 420) := by unfold atMW possM; rw [if_neg (by rw [← inR_M]; first | (simp_all; done) | (simp_all; intro q; simp_all))]
  exact retG [] (.cons (resC 1 rfl rfl rfl) (.cons (resT rfl) .nil)) (List.nil_sublist _) ⟨_, rfl, rfl, true, true, true, by rw [hq]; rfl⟩

end Go.Proofs.YtnoicbajhlpndaaGreat
/- The walks of the reference's renamed, owed, Debts, SameDebts. -/
namespace Go.Proofs.YtnoicbajhlpndaaGreat
open Go Go.RowKit Go.Shelf Hp
set_option maxRecDepth 10000
set_option maxHeartbeats 1000000
set_option linter.unusedVariables false
set_option linter.unusedSimpArgs false
set_option linter.unnecessarySimpa false
attribute [local irreducible] WP WPs FnX IterX YdX RetP PanP Ch Back Join
theorem ren_succ {l : List Dbt} {a b : Int} {k : Nat} (h : k < l.length) : renamedM (l.take (k + 1)) a b = if keepD (renD a b (l.getD k dD)) = true then renamedM (l.take k) a b ++ [renD a b (l.getD k dD)] else renamedM (l.take k) a b := by
  have e : l.take (k + 1) = l.take k ++ [l.getD k dD] := by rw [List.take_add_one, List.getElem?_eq_getElem h]; simp [h]
  simp only [renamedM, e, List.map_append, List.filter_append, List.map_cons, List.map_nil]
  cases hk : keepD (renD a b (l.getD k dD)) with
  | true => rw [List.filter_cons_of_pos hk, if_pos rfl]; rfl
  | false => rw [List.filter_cons_of_neg (by rw [hk]; exact Bool.false_ne_true), if_neg Bool.false_ne_true]; simp
structure RnI (l : List Dbt) (a b : Int) where
  k : Nat
  hk : k ≤ l.length
  hn : renamedM (l.take k) a b = []
structure RnJ (l : List Dbt) (a b : Int) where
  k : Nat
  ob : Nat
  c : Nat
  es : List (List PV)
  len : Nat
  hk : k ≤ l.length
  he : es = (renamedM (l.take k) a b).map encD
  hl : len = (renamedM (l.take k) a b).length
  hne : renamedM (l.take k) a b ≠ []
  hc : len ≤ c

theorem renamed42_spec (l : List Dbt) (hlen : l.length ≤ 1000000000) (f : Bool) (a b : Int) : Fc Tryz.prog 90 [V (l.map encD) f, I a, I b] [] (fun r h' => (∃ f', r = V ((renamedM l a b).map encD) f') ∧ h' = []) := by
 refine fnE_intro (N := 42) Tryz.func90 rfl rfl rfl ?_
 intro X
 refine h_seq<|H<|S Z K<|o_nil<|h_seq<|H<|S Z K<|o_nil<|h_seq<|h_seq<|H<|S Z K ?_
 refine o_nil<|h_block<|h_famS (ι := (RnI l a b) ⊕ (RnJ l a b)) (fun i => match i with | .inl i => [(0, V (l.map encD) f), (1, I a), (2, I b), (7, V [] true), (8, I (i.k : Nat))] | .inr i => [(0, V (l.map encD) f), (1, I a), (2, I b), (7, .os i.ob 3 0 i.len i.c), (8, I (i.k : Nat))]) (fun i => match i with | .inl i => [] | .inr i => (i.ob, .arr 114 3 i.es i.c) :: []) (fun i => match i with | .inl i => l.length - i.k | .inr i => l.length - i.k) (.inl ⟨0, Nat.zero_le _, rfl⟩) (.refl _) (subT.cons Z (subT.cons Z (subT.cons Z (subT.cons Z (subT.cons Z subT.nil))))) ?_
 rintro (⟨k, hk, hn⟩ | ⟨k, ob, c, es, len, hk, he, hl, hne, hc⟩)
 ·
  dsimp only
  have hrl := ren_len (l.take k) a b
  have htl := List.length_take_le k l
  by_cases hlt : k < l.length
  ·
   obtain ⟨z, hz⟩ : ∃ z, z = l.getD k dD := ⟨_, rfl⟩
   refine h_seq<|h_seq<|H<|G Z K<|G Z K<|o_len Z K<|o_cmp Z Z Z K<|o_nil<|h_condt Z (by simp; omega) ?_
   refine h_skip<|h_seq<|h_block<|h_seq<|H<|G Z K<|G Z K<|o_idxv Z Z (by omega) (show _ = some (encD z) from by rw [eltDP (by simpa using hlt)]; simp only [Int.toNat_natCast, ← hz]) rfl K ?_
   refine o_loadv Z Z K<|o_alloc K fun x2 => ?_
   refine o_store 0 Z Z Z Z Z Z<|o_nil<|h_seq<|h_seq<|H<|F Z Z K K<|O 0 Z Z Z Z K<|G Z K<|o_cmp Z Z Z K<|o_nil<|h_cond Z (fun c4 => ?_) (fun c4 => ?_)
   ·
    refine H<|G Z K<|F Z Z K K ?_
    refine o_store 0 Z Z Z Z Z Z<|o_nil<|h_seq<|h_seq<|H<|F Z Z K K<|O 0 Z Z Z Z K<|G Z K<|o_cmp Z Z Z K<|o_nil<|h_cond Z (fun c6 => ?_) (fun c6 => ?_)
    ·
     refine H<|G Z K<|F Z Z K K ?_
     refine o_store 0 Z Z Z Z Z Z<|o_nil<|h_seq<|H<|F Z Z K K<|O 0 Z Z Z Z K<|F Z Z K K<|O 0 Z Z Z Z K<|o_cmp Z Z Z K<|o_nil<|h_cond Z (fun c8 => ?_) (fun c8 => ?_)
     ·
      refine H<|G Z K<|O 0 Z Z Z Z K<|o_buildSlicep Z (by rfl) (by rfl) (by rfl) (by rfl) K ?_
      refine o_appendv Z Z (Src.v _ _) (okB_one rfl) (by simp [chunk]) (by rw [chunk_length]; omega) (by simp [chunk_length]; try omega) K fun x9 c10 hc11 => ?_
      refine S Z K<|o_nil<|H<|G Z K<|o_add Z Z (by unfold in64; (try dsimp only); omega) K ?_
      refine S Z K<|o_nil ?_
      have hd' : renD a b z = (⟨b, b, z.m⟩ : Dbt) := by unfold renD; rw [if_pos (show z.fr = a by simpa using c4), if_pos (show z.to = a by simpa using c6)]
      have hkp : keepD (⟨b, b, z.m⟩ : Dbt) = true := by unfold keepD; simpa using c8
      have hq : renamedM (l.take (k + 1)) a b = renamedM (l.take k) a b ++ [(⟨b, b, z.m⟩ : Dbt)] := by rw [ren_succ hlt, ← hz, hd', if_pos hkp]
      refine back rfl (.inr ⟨k + 1, x9, c10, (renamedM (l.take k) a b ++ [(⟨b, b, z.m⟩ : Dbt)]).map encD, _, hlt, (by rw [hq]), (by rw [hq]; simp [chunk_length, hn]), (by rw [hq]; simp), (by simpa [chunk_length] using hc11)⟩) (by dsimp only; omega) (by dsimp only; rw [List.map_append, show (renamedM (l.take k) a b).map encD = [] from by rw [hn]; rfl]; exact (.cons_cons _ (.cons _ (.refl _)))) (subT.cons Z (subT.cons Z (subT.cons Z (subT.cons Z (subT.cons Z subT.nil)))))
     ·
      refine h_skip<|H<|G Z K<|o_add Z Z (by unfold in64; (try dsimp only); omega) K ?_
      refine S Z K<|o_nil ?_
      have hd' : renD a b z = (⟨b, b, z.m⟩ : Dbt) := by unfold renD; rw [if_pos (show z.fr = a by simpa using c4), if_pos (show z.to = a by simpa using c6)]
      have hkp : keepD (⟨b, b, z.m⟩ : Dbt) = false := by unfold keepD; simpa using c8
      have hq : renamedM (l.take (k + 1)) a b = renamedM (l.take k) a b := by rw [ren_succ hlt, ← hz, hd', if_neg (by rw [hkp]; decide)]
      refine back rfl (.inl ⟨k + 1, hlt, hq.trans hn⟩) (by dsimp only; omega) (.cons _ (.refl _)) (subT.cons Z (subT.cons Z (subT.cons Z (subT.cons Z (subT.cons Z subT.nil)))))
    ·
     refine h_skip<|h_seq<|H<|F Z Z K K<|O 0 Z Z Z Z K<|F Z Z K K<|O 0 Z Z Z Z K<|o_cmp Z Z Z K<|o_nil<|h_cond Z (fun c13 => ?_) (fun c13 => ?_)
     ·
      refine H<|G Z K<|O 0 Z Z Z Z K<|o_buildSlicep Z (by rfl) (by rfl) (by rfl) (by rfl) K ?_
      refine o_appendv Z Z (Src.v _ _) (okB_one rfl) (by simp [chunk]) (by rw [chunk_length]; omega) (by simp [chunk_length]; try omega) K fun x14 c15 hc16 => ?_
      refine S Z K<|o_nil<|H<|G Z K<|o_add Z Z (by unfold in64; (try dsimp only); omega) K ?_
      refine S Z K<|o_nil ?_
      have hd' : renD a b z = (⟨b, z.to, z.m⟩ : Dbt) := by unfold renD; rw [if_pos (show z.fr = a by simpa using c4), if_neg (show ¬ z.to = a by simpa using c6)]
      have hkp : keepD (⟨b, z.to, z.m⟩ : Dbt) = true := by unfold keepD; simpa using c13
      have hq : renamedM (l.take (k + 1)) a b = renamedM (l.take k) a b ++ [(⟨b, z.to, z.m⟩ : Dbt)] := by rw [ren_succ hlt, ← hz, hd', if_pos hkp]
      refine back rfl (.inr ⟨k + 1, x14, c15, (renamedM (l.take k) a b ++ [(⟨b, z.to, z.m⟩ : Dbt)]).map encD, _, hlt, (by rw [hq]), (by rw [hq]; simp [chunk_length, hn]), (by rw [hq]; simp), (by simpa [chunk_length] using hc16)⟩) (by dsimp only; omega) (by dsimp only; rw [List.map_append, show (renamedM (l.take k) a b).map encD = [] from by rw [hn]; rfl]; exact (.cons_cons _ (.cons _ (.refl _)))) (subT.cons Z (subT.cons Z (subT.cons Z (subT.cons Z (subT.cons Z subT.nil)))))
     ·
      refine h_skip<|H<|G Z K<|o_add Z Z (by unfold in64; (try dsimp only); omega) K ?_
      refine S Z K<|o_nil ?_
      have hd' : renD a b z = (⟨b, z.to, z.m⟩ : Dbt) := by unfold renD; rw [if_pos (show z.fr = a by simpa using c4), if_neg (show ¬ z.to = a by simpa using c6)]
      have hkp : keepD (⟨b, z.to, z.m⟩ : Dbt) = false := by unfold keepD; simpa using c13
      have hq : renamedM (l.take (k + 1)) a b = renamedM (l.take k) a b := by rw [ren_succ hlt, ← hz, hd', if_neg (by rw [hkp]; decide)]
      refine back rfl (.inl ⟨k + 1, hlt, hq.trans hn⟩) (by dsimp only; omega) (.cons _ (.refl _)) (subT.cons Z (subT.cons Z (subT.cons Z (subT.cons Z (subT.cons Z subT.nil)))))
   ·
    refine h_skip<|h_seq<|h_seq<|H<|F Z Z K K<|O 0 Z Z Z Z K<|G Z K<|o_cmp Z Z Z K<|o_nil<|h_cond Z (fun c18 => ?_) (fun c18 => ?_)
    ·
     refine H<|G Z K<|F Z Z K K ?_
     refine o_store 0 Z Z Z Z Z Z<|o_nil<|h_seq<|H<|F Z Z K K<|O 0 Z Z Z Z K<|F Z Z K K<|O 0 Z Z Z Z K<|o_cmp Z Z Z K<|o_nil<|h_cond Z (fun c20 => ?_) (fun c20 => ?_)
     ·
      refine H<|G Z K<|O 0 Z Z Z Z K<|o_buildSlicep Z (by rfl) (by rfl) (by rfl) (by rfl) K ?_
      refine o_appendv Z Z (Src.v _ _) (okB_one rfl) (by simp [chunk]) (by rw [chunk_length]; omega) (by simp [chunk_length]; try omega) K fun x21 c22 hc23 => ?_
      refine S Z K<|o_nil<|H<|G Z K<|o_add Z Z (by unfold in64; (try dsimp only); omega) K ?_
      refine S Z K<|o_nil ?_
      have hd' : renD a b z = (⟨z.fr, b, z.m⟩ : Dbt) := by unfold renD; rw [if_neg (show ¬ z.fr = a by simpa using c4), if_pos (show z.to = a by simpa using c18)]
      have hkp : keepD (⟨z.fr, b, z.m⟩ : Dbt) = true := by unfold keepD; simpa using c20
      have hq : renamedM (l.take (k + 1)) a b = renamedM (l.take k) a b ++ [(⟨z.fr, b, z.m⟩ : Dbt)] := by rw [ren_succ hlt, ← hz, hd', if_pos hkp]
      refine back rfl (.inr ⟨k + 1, x21, c22, (renamedM (l.take k) a b ++ [(⟨z.fr, b, z.m⟩ : Dbt)]).map encD, _, hlt, (by rw [hq]), (by rw [hq]; simp [chunk_length, hn]), (by rw [hq]; simp), (by simpa [chunk_length] using hc23)⟩) (by dsimp only; omega) (by dsimp only; rw [List.map_append, show (renamedM (l.take k) a b).map encD = [] from by rw [hn]; rfl]; exact (.cons_cons _ (.cons _ (.refl _)))) (subT.cons Z (subT.cons Z (subT.cons Z (subT.cons Z (subT.cons Z subT.nil)))))
     ·
      refine h_skip<|H<|G Z K<|o_add Z Z (by unfold in64; (try dsimp only); omega) K ?_
      refine S Z K<|o_nil ?_
      have hd' : renD a b z = (⟨z.fr, b, z.m⟩ : Dbt) := by unfold renD; rw [if_neg (show ¬ z.fr = a by simpa using c4), if_pos (show z.to = a by simpa using c18)]
      have hkp : keepD (⟨z.fr, b, z.m⟩ : Dbt) = false := by unfold keepD; simpa using c20
      have hq : renamedM (l.take (k + 1)) a b = renamedM (l.take k) a b := by rw [ren_succ hlt, ← hz, hd', if_neg (by rw [hkp]; decide)]
      refine back rfl (.inl ⟨k + 1, hlt, hq.trans hn⟩) (by dsimp only; omega) (.cons _ (.refl _)) (subT.cons Z (subT.cons Z (subT.cons Z (subT.cons Z (subT.cons Z subT.nil)))))
    ·
     refine h_skip<|h_seq<|H<|F Z Z K K<|O 0 Z Z Z Z K<|F Z Z K K<|O 0 Z Z Z Z K<|o_cmp Z Z Z K<|o_nil<|h_cond Z (fun c25 => ?_) (fun c25 => ?_)
     ·
      refine H<|G Z K<|O 0 Z Z Z Z K<|o_buildSlicep Z (by rfl) (by rfl) (by rfl) (by rfl) K ?_
      refine o_appendv Z Z (Src.v _ _) (okB_one rfl) (by simp [chunk]) (by rw [chunk_length]; omega) (by simp [chunk_length]; try omega) K fun x26 c27 hc28 => ?_
      refine S Z K<|o_nil<|H<|G Z K<|o_add Z Z (by unfold in64; (try dsimp only); omega) K ?_
      refine S Z K<|o_nil ?_
      have hd' : renD a b z = (⟨z.fr, z.to, z.m⟩ : Dbt) := by unfold renD; rw [if_neg (show ¬ z.fr = a by simpa using c4), if_neg (show ¬ z.to = a by simpa using c18)]
      have hkp : keepD (⟨z.fr, z.to, z.m⟩ : Dbt) = true := by unfold keepD; simpa using c25
      have hq : renamedM (l.take (k + 1)) a b = renamedM (l.take k) a b ++ [(⟨z.fr, z.to, z.m⟩ : Dbt)] := by rw [ren_succ hlt, ← hz, hd', if_pos hkp]
      refine back rfl (.inr ⟨k + 1, x26, c27, (renamedM (l.take k) a b ++ [(⟨z.fr, z.to, z.m⟩ : Dbt)]).map encD, _, hlt, (by rw [hq]), (by rw [hq]; simp [chunk_length, hn]), (by rw [hq]; simp), (by simpa [chunk_length] using hc28)⟩) (by dsimp only; omega) (by dsimp only; rw [List.map_append, show (renamedM (l.take k) a b).map encD = [] from by rw [hn]; rfl]; exact (.cons_cons _ (.cons _ (.refl _)))) (subT.cons Z (subT.cons Z (subT.cons Z (subT.cons Z (subT.cons Z subT.nil)))))
     ·
      refine h_skip<|H<|G Z K<|o_add Z Z (by unfold in64; (try dsimp only); omega) K ?_
      refine S Z K<|o_nil ?_
      have hd' : renD a b z = (⟨z.fr, z.to, z.m⟩ : Dbt) := by unfold renD; rw [if_neg (show ¬ z.fr = a by simpa using c4), if_neg (show ¬ z.to = a by simpa using c18)]
      have hkp : keepD (⟨z.fr, z.to, z.m⟩ : Dbt) = false := by unfold keepD; simpa using c25
      have hq : renamedM (l.take (k + 1)) a b = renamedM (l.take k) a b := by rw [ren_succ hlt, ← hz, hd', if_neg (by rw [hkp]; decide)]
      refine back rfl (.inl ⟨k + 1, hlt, hq.trans hn⟩) (by dsimp only; omega) (.cons _ (.refl _)) (subT.cons Z (subT.cons Z (subT.cons Z (subT.cons Z (subT.cons Z subT.nil)))))
  ·
   obtain rfl : k = l.length := by omega
   refine h_seq<|h_seq<|H<|G Z K<|G Z K<|o_len Z K<|o_cmp Z Z Z K<|o_nil<|h_condf Z (by simp <;> omega) ?_
   refine h_exit<|h_seq<|H<|G Z K<|S Z K<|o_nil<|h_ret ?_
   rw [List.take_length] at hn
   exact ret1 rfl ⟨_, rfl, ⟨true, by rw [hn]; rfl⟩, rfl⟩
 ·
  dsimp only
  subst he; subst hl
  have hrl := ren_len (l.take k) a b
  have htl := List.length_take_le k l
  by_cases hlt : k < l.length
  ·
   obtain ⟨z, hz⟩ : ∃ z, z = l.getD k dD := ⟨_, rfl⟩
   refine h_seq<|h_seq<|H<|G Z K<|G Z K<|o_len Z K<|o_cmp Z Z Z K<|o_nil<|h_condt Z (by simp; omega) ?_
   refine h_skip<|h_seq<|h_block<|h_seq<|H<|G Z K<|G Z K<|o_idxv Z Z (by omega) (show _ = some (encD z) from by rw [eltDP (by simpa using hlt)]; simp only [Int.toNat_natCast, ← hz]) rfl K ?_
   refine o_loadv Z Z K<|o_alloc K fun x31 => ?_
   refine o_store 0 Z Z Z Z Z Z<|o_nil<|h_seq<|h_seq<|H<|F Z Z K K<|O 0 Z Z Z Z K<|G Z K<|o_cmp Z Z Z K<|o_nil<|h_cond Z (fun c33 => ?_) (fun c33 => ?_)
   ·
    refine H<|G Z K<|F Z Z K K ?_
    refine o_store 0 Z Z Z Z Z Z<|o_nil<|h_seq<|h_seq<|H<|F Z Z K K<|O 0 Z Z Z Z K<|G Z K<|o_cmp Z Z Z K<|o_nil<|h_cond Z (fun c35 => ?_) (fun c35 => ?_)
    ·
     refine H<|G Z K<|F Z Z K K ?_
     refine o_store 0 Z Z Z Z Z Z<|o_nil<|h_seq<|H<|F Z Z K K<|O 0 Z Z Z Z K<|F Z Z K K<|O 0 Z Z Z Z K<|o_cmp Z Z Z K<|o_nil<|h_cond Z (fun c37 => ?_) (fun c37 => ?_)
     ·
      refine H<|G Z K<|O 0 Z Z Z Z K<|o_buildSlicep Z (by rfl) (by rfl) (by rfl) (by rfl) K ?_
      refine o_append 1 Z Z Z (Src.v _ _) (okB_one rfl) (by simp) (by simp [chunk_length]; try omega) K fun x38 c39 hc40 => ?_
      refine S Z K<|o_nil<|H<|G Z K<|o_add Z Z (by unfold in64; (try dsimp only); omega) K ?_
      refine S Z K<|o_nil ?_
      have hd' : renD a b z = (⟨b, b, z.m⟩ : Dbt) := by unfold renD; rw [if_pos (show z.fr = a by simpa using c33), if_pos (show z.to = a by simpa using c35)]
      have hkp : keepD (⟨b, b, z.m⟩ : Dbt) = true := by unfold keepD; simpa using c37
      have hq : renamedM (l.take (k + 1)) a b = renamedM (l.take k) a b ++ [(⟨b, b, z.m⟩ : Dbt)] := by rw [ren_succ hlt, ← hz, hd', if_pos hkp]
      refine back rfl (.inr ⟨k + 1, x38, c39, (renamedM (l.take k) a b ++ [(⟨b, b, z.m⟩ : Dbt)]).map encD, _, hlt, (by rw [hq]), (by rw [hq]; simp [chunk_length]), (by rw [hq]; simp), (by simpa [chunk_length] using hc40)⟩) (by dsimp only; omega) (by dsimp only; rw [List.map_append]; exact (.cons _ (.cons_cons _ (.refl _)))) (subT.cons Z (subT.cons Z (subT.cons Z (subT.cons Z (subT.cons Z subT.nil)))))
     ·
      refine h_skip<|H<|G Z K<|o_add Z Z (by unfold in64; (try dsimp only); omega) K ?_
      refine S Z K<|o_nil ?_
      have hd' : renD a b z = (⟨b, b, z.m⟩ : Dbt) := by unfold renD; rw [if_pos (show z.fr = a by simpa using c33), if_pos (show z.to = a by simpa using c35)]
      have hkp : keepD (⟨b, b, z.m⟩ : Dbt) = false := by unfold keepD; simpa using c37
      have hq : renamedM (l.take (k + 1)) a b = renamedM (l.take k) a b := by rw [ren_succ hlt, ← hz, hd', if_neg (by rw [hkp]; decide)]
      refine back rfl (.inr ⟨k + 1, ob, c, _, _, hlt, by rw [hq], by rw [hq], by rw [hq]; exact hne, hc⟩) (by dsimp only; omega) (.cons _ (.cons_cons _ (.refl _))) (subT.cons Z (subT.cons Z (subT.cons Z (subT.cons Z (subT.cons Z subT.nil)))))
    ·
     refine h_skip<|h_seq<|H<|F Z Z K K<|O 0 Z Z Z Z K<|F Z Z K K<|O 0 Z Z Z Z K<|o_cmp Z Z Z K<|o_nil<|h_cond Z (fun c42 => ?_) (fun c42 => ?_)
     ·
      refine H<|G Z K<|O 0 Z Z Z Z K<|o_buildSlicep Z (by rfl) (by rfl) (by rfl) (by rfl) K ?_
      refine o_append 1 Z Z Z (Src.v _ _) (okB_one rfl) (by simp) (by simp [chunk_length]; try omega) K fun x43 c44 hc45 => ?_
      refine S Z K<|o_nil<|H<|G Z K<|o_add Z Z (by unfold in64; (try dsimp only); omega) K ?_
      refine S Z K<|o_nil ?_
      have hd' : renD a b z = (⟨b, z.to, z.m⟩ : Dbt) := by unfold renD; rw [if_pos (show z.fr = a by simpa using c33), if_neg (show ¬ z.to = a by simpa using c35)]
      have hkp : keepD (⟨b, z.to, z.m⟩ : Dbt) = true := by unfold keepD; simpa using c42
      have hq : renamedM (l.take (k + 1)) a b = renamedM (l.take k) a b ++ [(⟨b, z.to, z.m⟩ : Dbt)] := by rw [ren_succ hlt, ← hz, hd', if_pos hkp]
      refine back rfl (.inr ⟨k + 1, x43, c44, (renamedM (l.take k) a b ++ [(⟨b, z.to, z.m⟩ : Dbt)]).map encD, _, hlt, (by rw [hq]), (by rw [hq]; simp [chunk_length]), (by rw [hq]; simp), (by simpa [chunk_length] using hc45)⟩) (by dsimp only; omega) (by dsimp only; rw [List.map_append]; exact (.cons _ (.cons_cons _ (.refl _)))) (subT.cons Z (subT.cons Z (subT.cons Z (subT.cons Z (subT.cons Z subT.nil)))))
     ·
      refine h_skip<|H<|G Z K<|o_add Z Z (by unfold in64; (try dsimp only); omega) K ?_
      refine S Z K<|o_nil ?_
      have hd' : renD a b z = (⟨b, z.to, z.m⟩ : Dbt) := by unfold renD; rw [if_pos (show z.fr = a by simpa using c33), if_neg (show ¬ z.to = a by simpa using c35)]
      have hkp : keepD (⟨b, z.to, z.m⟩ : Dbt) = false := by unfold keepD; simpa using c42
      have hq : renamedM (l.take (k + 1)) a b = renamedM (l.take k) a b := by rw [ren_succ hlt, ← hz, hd', if_neg (by rw [hkp]; decide)]
      refine back rfl (.inr ⟨k + 1, ob, c, _, _, hlt, by rw [hq], by rw [hq], by rw [hq]; exact hne, hc⟩) (by dsimp only; omega) (.cons _ (.cons_cons _ (.refl _))) (subT.cons Z (subT.cons Z (subT.cons Z (subT.cons Z (subT.cons Z subT.nil)))))
   ·
    refine h_skip<|h_seq<|h_seq<|H<|F Z Z K K<|O 0 Z Z Z Z K<|G Z K<|o_cmp Z Z Z K<|o_nil<|h_cond Z (fun c47 => ?_) (fun c47 => ?_)
    ·
     refine H<|G Z K<|F Z Z K K ?_
     refine o_store 0 Z Z Z Z Z Z<|o_nil<|h_seq<|H<|F Z Z K K<|O 0 Z Z Z Z K<|F Z Z K K<|O 0 Z Z Z Z K<|o_cmp Z Z Z K<|o_nil<|h_cond Z (fun c49 => ?_) (fun c49 => ?_)
     ·
      refine H<|G Z K<|O 0 Z Z Z Z K<|o_buildSlicep Z (by rfl) (by rfl) (by rfl) (by rfl) K ?_
      refine o_append 1 Z Z Z (Src.v _ _) (okB_one rfl) (by simp) (by simp [chunk_length]; try omega) K fun x50 c51 hc52 => ?_
      refine S Z K<|o_nil<|H<|G Z K<|o_add Z Z (by unfold in64; (try dsimp only); omega) K ?_
      refine S Z K<|o_nil ?_
      have hd' : renD a b z = (⟨z.fr, b, z.m⟩ : Dbt) := by unfold renD; rw [if_neg (show ¬ z.fr = a by simpa using c33), if_pos (show z.to = a by simpa using c47)]
      have hkp : keepD (⟨z.fr, b, z.m⟩ : Dbt) = true := by unfold keepD; simpa using c49
      have hq : renamedM (l.take (k + 1)) a b = renamedM (l.take k) a b ++ [(⟨z.fr, b, z.m⟩ : Dbt)] := by rw [ren_succ hlt, ← hz, hd', if_pos hkp]
      refine back rfl (.inr ⟨k + 1, x50, c51, (renamedM (l.take k) a b ++ [(⟨z.fr, b, z.m⟩ : Dbt)]).map encD, _, hlt, (by rw [hq]), (by rw [hq]; simp [chunk_length]), (by rw [hq]; simp), (by simpa [chunk_length] using hc52)⟩) (by dsimp only; omega) (by dsimp only; rw [List.map_append]; exact (.cons _ (.cons_cons _ (.refl _)))) (subT.cons Z (subT.cons Z (subT.cons Z (subT.cons Z (subT.cons Z subT.nil)))))
     ·
      refine h_skip<|H<|G Z K<|o_add Z Z (by unfold in64; (try dsimp only); omega) K ?_
      refine S Z K<|o_nil ?_
      have hd' : renD a b z = (⟨z.fr, b, z.m⟩ : Dbt) := by unfold renD; rw [if_neg (show ¬ z.fr = a by simpa using c33), if_pos (show z.to = a by simpa using c47)]
      have hkp : keepD (⟨z.fr, b, z.m⟩ : Dbt) = false := by unfold keepD; simpa using c49
      have hq : renamedM (l.take (k + 1)) a b = renamedM (l.take k) a b := by rw [ren_succ hlt, ← hz, hd', if_neg (by rw [hkp]; decide)]
      refine back rfl (.inr ⟨k + 1, ob, c, _, _, hlt, by rw [hq], by rw [hq], by rw [hq]; exact hne, hc⟩) (by dsimp only; omega) (.cons _ (.cons_cons _ (.refl _))) (subT.cons Z (subT.cons Z (subT.cons Z (subT.cons Z (subT.cons Z subT.nil)))))
    ·
     refine h_skip<|h_seq<|H<|F Z Z K K<|O 0 Z Z Z Z K<|F Z Z K K<|O 0 Z Z Z Z K<|o_cmp Z Z Z K<|o_nil<|h_cond Z (fun c54 => ?_) (fun c54 => ?_)
     ·
      refine H<|G Z K<|O 0 Z Z Z Z K<|o_buildSlicep Z (by rfl) (by rfl) (by rfl) (by rfl) K ?_
      refine o_append 1 Z Z Z (Src.v _ _) (okB_one rfl) (by simp) (by simp [chunk_length]; try omega) K fun x55 c56 hc57 => ?_
      refine S Z K<|o_nil<|H<|G Z K<|o_add Z Z (by unfold in64; (try dsimp only); omega) K ?_
      refine S Z K<|o_nil ?_
      have hd' : renD a b z = (⟨z.fr, z.to, z.m⟩ : Dbt) := by unfold renD; rw [if_neg (show ¬ z.fr = a by simpa using c33), if_neg (show ¬ z.to = a by simpa using c47)]
      have hkp : keepD (⟨z.fr, z.to, z.m⟩ : Dbt) = true := by unfold keepD; simpa using c54
      have hq : renamedM (l.take (k + 1)) a b = renamedM (l.take k) a b ++ [(⟨z.fr, z.to, z.m⟩ : Dbt)] := by rw [ren_succ hlt, ← hz, hd', if_pos hkp]
      refine back rfl (.inr ⟨k + 1, x55, c56, (renamedM (l.take k) a b ++ [(⟨z.fr, z.to, z.m⟩ : Dbt)]).map encD, _, hlt, (by rw [hq]), (by rw [hq]; simp [chunk_length]), (by rw [hq]; simp), (by simpa [chunk_length] using hc57)⟩) (by dsimp only; omega) (by dsimp only; rw [List.map_append]; exact (.cons _ (.cons_cons _ (.refl _)))) (subT.cons Z (subT.cons Z (subT.cons Z (subT.cons Z (subT.cons Z subT.nil)))))
     ·
      refine h_skip<|H<|G Z K<|o_add Z Z (by unfold in64; (try dsimp only); omega) K ?_
      refine S Z K<|o_nil ?_
      have hd' : renD a b z = (⟨z.fr, z.to, z.m⟩ : Dbt) := by unfold renD; rw [if_neg (show ¬ z.fr = a by simpa using c33), if_neg (show ¬ z.to = a by simpa using c47)]
      have hkp : keepD (⟨z.fr, z.to, z.m⟩ : Dbt) = false := by unfold keepD; simpa using c54
      have hq : renamedM (l.take (k + 1)) a b = renamedM (l.take k) a b := by rw [ren_succ hlt, ← hz, hd', if_neg (by rw [hkp]; decide)]
      refine back rfl (.inr ⟨k + 1, ob, c, _, _, hlt, by rw [hq], by rw [hq], by rw [hq]; exact hne, hc⟩) (by dsimp only; omega) (.cons _ (.cons_cons _ (.refl _))) (subT.cons Z (subT.cons Z (subT.cons Z (subT.cons Z (subT.cons Z subT.nil)))))
  ·
   obtain rfl : k = l.length := by omega
   refine h_seq<|h_seq<|H<|G Z K<|G Z K<|o_len Z K<|o_cmp Z Z Z K<|o_nil<|h_condf Z (by simp <;> omega) ?_
   exact h_exit<|h_seq<|H<|G Z K<|S Z K<|o_nil<|h_ret<|retF (.cons (resT rfl) .nil) (frz_os List.mem_cons_self (by simp) hc) ⟨_, rfl, ⟨false, by rw [List.take_length]⟩, rfl⟩

theorem owed42_spec (l : List Dbt) (hlen : l.length ≤ 900000000) (f : Bool) (a b m : Int) (hm : -1000000000000 ≤ m ∧ m ≤ 1000000000000) : Fc Tryz.prog 91 [V (l.map encD) f, I a, I b, I m] [] (fun r h' => (∃ f', r = V ((owedM l a b m).map encD) f') ∧ h' = []) := by
 refine fnE_intro (N := 33) Tryz.func91 rfl rfl rfl ?_
 intro X
 refine h_seq<|H<|S Z K<|o_nil ?_
 by_cases hbe : l = []
 ·
  refine h_seq<|H<|o_buildSlicep Z (by rfl) (by rfl) (by rfl) (by rfl) K ?_
  refine G Z K<|o_append00 Z Z (by simp [hbe]) K ?_
  refine S Z K<|o_nil<|h_seq<|h_seq<|H<|G Z K<|o_cmp Z Z Z K<|o_nil<|h_cond Z (fun c60 => ?_) (fun c60 => ?_)
  ·
   refine H<|G Z K<|G Z K<|G Z K<|G Z K<|o_build Z Z K<|o_buildSlicep Z (by rfl) (by rfl) (by rfl) (by rfl) K ?_
   refine o_appendv Z Z (Src.v _ _) (okB_one rfl) (by simp [chunk]) (by rw [chunk_length]; omega) (by simp [chunk_length]; try omega) K fun x61 c62 hc63 => ?_
   refine S Z K<|o_nil<|h_seq<|h_seq<|H<|G Z K<|o_cmp Z Z Z K<|o_nil<|h_cond Z (fun c65 => ?_) (fun c65 => ?_)
   ·
    refine H<|G Z K<|G Z K<|G Z K<|G Z K<|o_neg Z (by unfold in64; (try dsimp only); omega) K ?_
    refine o_build Z Z K<|o_buildSlicep Z (by rfl) (by rfl) (by rfl) (by rfl) K ?_
    refine o_append 0 Z Z Z (Src.v _ _) (okB_one rfl) (by first | (simp; done) | (simp [chunk]; done)) (by simp [chunk_length]; try omega) K fun x66 c67 hc68 => ?_
    refine S Z K<|o_nil<|h_seq<|H<|G Z K<|S Z K<|o_nil<|h_ret ?_
    have h1 : 0 < m := by simpa using c60
    have h2 : m < 0 := by simpa using c65
    omega
   ·
    refine h_skip<|h_seq<|H<|G Z K<|S Z K<|o_nil<|h_ret ?_
    have h1 : 0 < m := by simpa using c60
    have h2 : ¬ m < 0 := by simpa using c65
    have hq : owedM l a b m = l ++ [⟨a, b, m⟩] := by unfold owedM; rw [if_pos h1]
    exact retF (.cons (resT rfl) .nil) (frz_os List.mem_cons_self (by simp [chunk_length]) hc63) ⟨_, rfl, ⟨false, by rw [hq]; rw [hbe]; simp [chunk]; try rfl⟩, rfl⟩
  ·
   refine h_skip<|h_seq<|h_seq<|H<|G Z K<|o_cmp Z Z Z K<|o_nil<|h_cond Z (fun c70 => ?_) (fun c70 => ?_)
   ·
    refine H<|G Z K<|G Z K<|G Z K<|G Z K<|o_neg Z (by unfold in64; (try dsimp only); omega) K ?_
    refine o_build Z Z K<|o_buildSlicep Z (by rfl) (by rfl) (by rfl) (by rfl) K ?_
    refine o_appendv Z Z (Src.v _ _) (okB_one rfl) (by simp [chunk]) (by rw [chunk_length]; omega) (by simp [chunk_length]; try omega) K fun x71 c72 hc73 => ?_
    refine S Z K<|o_nil<|h_seq<|H<|G Z K<|S Z K<|o_nil<|h_ret ?_
    have h1 : ¬ 0 < m := by simpa using c60
    have h2 : m < 0 := by simpa using c70
    have hq : owedM l a b m = l ++ [⟨b, a, -m⟩] := by unfold owedM; rw [if_neg h1, if_pos h2]
    exact retF (.cons (resT rfl) .nil) (frz_os List.mem_cons_self (by simp [chunk_length]) hc73) ⟨_, rfl, ⟨false, by rw [hq]; rw [hbe]; simp [chunk]; try rfl⟩, rfl⟩
   ·
    refine h_skip<|h_seq<|H<|G Z K<|S Z K<|o_nil<|h_ret ?_
    have h1 : ¬ 0 < m := by simpa using c60
    have h2 : ¬ m < 0 := by simpa using c70
    have hq : owedM l a b m = l := by unfold owedM; rw [if_neg h1, if_neg h2]
    exact ret1 rfl ⟨_, rfl, ⟨true, by rw [hq, hbe]; rfl⟩, rfl⟩
 ·
  refine h_seq<|H<|o_buildSlicep Z (by rfl) (by rfl) (by rfl) (by rfl) K ?_
  refine G Z K<|o_appendv Z Z (Src.v _ _) okB_D (by simp [chunk]) (by simp; exact List.length_pos_iff.2 hbe) (by simp [chunk_length]; try omega) K fun x74 c75 hc76 => ?_
  refine S Z K<|o_nil<|h_seq<|h_seq<|H<|G Z K<|o_cmp Z Z Z K<|o_nil<|h_cond Z (fun c78 => ?_) (fun c78 => ?_)
  ·
   refine H<|G Z K<|G Z K<|G Z K<|G Z K<|o_build Z Z K<|o_buildSlicep Z (by rfl) (by rfl) (by rfl) (by rfl) K ?_
   refine o_append 0 Z Z Z (Src.v _ _) (okB_one rfl) (by first | (simp; done) | (simp [chunk]; done)) (by simp [chunk_length]; try omega) K fun x79 c80 hc81 => ?_
   refine S Z K<|o_nil<|h_seq<|h_seq<|H<|G Z K<|o_cmp Z Z Z K<|o_nil<|h_cond Z (fun c83 => ?_) (fun c83 => ?_)
   ·
    refine H<|G Z K<|G Z K<|G Z K<|G Z K<|o_neg Z (by unfold in64; (try dsimp only); omega) K ?_
    refine o_build Z Z K<|o_buildSlicep Z (by rfl) (by rfl) (by rfl) (by rfl) K ?_
    refine o_append 0 Z Z Z (Src.v _ _) (okB_one rfl) (by first | (simp; done) | (simp [chunk]; done)) (by simp [chunk_length]; try omega) K fun x84 c85 hc86 => ?_
    refine S Z K<|o_nil<|h_seq<|H<|G Z K<|S Z K<|o_nil<|h_ret ?_
    have h1 : 0 < m := by simpa using c78
    have h2 : m < 0 := by simpa using c83
    omega
   ·
    refine h_skip<|h_seq<|H<|G Z K<|S Z K<|o_nil<|h_ret ?_
    have h1 : 0 < m := by simpa using c78
    have h2 : ¬ m < 0 := by simpa using c83
    have hq : owedM l a b m = l ++ [⟨a, b, m⟩] := by unfold owedM; rw [if_pos h1]
    exact retF (.cons (resT rfl) .nil) (frz_os List.mem_cons_self (by simp [chunk_length]) hc81) ⟨_, rfl, ⟨false, by rw [hq]; simp [chunk]; try rfl⟩, rfl⟩
  ·
   refine h_skip<|h_seq<|h_seq<|H<|G Z K<|o_cmp Z Z Z K<|o_nil<|h_cond Z (fun c88 => ?_) (fun c88 => ?_)
   ·
    refine H<|G Z K<|G Z K<|G Z K<|G Z K<|o_neg Z (by unfold in64; (try dsimp only); omega) K ?_
    refine o_build Z Z K<|o_buildSlicep Z (by rfl) (by rfl) (by rfl) (by rfl) K ?_
    refine o_append 0 Z Z Z (Src.v _ _) (okB_one rfl) (by first | (simp; done) | (simp [chunk]; done)) (by simp [chunk_length]; try omega) K fun x89 c90 hc91 => ?_
    refine S Z K<|o_nil<|h_seq<|H<|G Z K<|S Z K<|o_nil<|h_ret ?_
    have h1 : ¬ 0 < m := by simpa using c78
    have h2 : m < 0 := by simpa using c88
    have hq : owedM l a b m = l ++ [⟨b, a, -m⟩] := by unfold owedM; rw [if_neg h1, if_pos h2]
    exact retF (.cons (resT rfl) .nil) (frz_os List.mem_cons_self (by simp [chunk_length]) hc91) ⟨_, rfl, ⟨false, by rw [hq]; simp [chunk]; try rfl⟩, rfl⟩
   ·
    refine h_skip<|h_seq<|H<|G Z K<|S Z K<|o_nil<|h_ret ?_
    have h1 : ¬ 0 < m := by simpa using c78
    have h2 : ¬ m < 0 := by simpa using c88
    have hq : owedM l a b m = l := by unfold owedM; rw [if_neg h1, if_neg h2]
    exact retF (.cons (resT rfl) .nil) (frz_os List.mem_cons_self (by simp [chunk_length]) hc76) ⟨_, rfl, ⟨false, by rw [hq]; simp [chunk]; try rfl⟩, rfl⟩

end Go.Proofs.YtnoicbajhlpndaaGreat
/- The walks of the reference's Debts, SameDebts. -/
namespace Go.Proofs.YtnoicbajhlpndaaGreat
open Go Go.RowKit Go.Shelf Hp
set_option maxRecDepth 10000
set_option maxHeartbeats 1000000
set_option linter.unusedVariables false
set_option linter.unusedSimpArgs false
set_option linter.unnecessarySimpa false
attribute [local irreducible] WP WPs FnX IterX YdX RetP PanP Ch Back Join
section
variable {P : Program} {X : Ctx} {N : Nat} {r : Option Nat} {Q : Post} {ds : List Deferred} {a : Tmps} {h : AHeap} {ops : Array Oper} {rest : List Oper} {d : Tmp} {ty : TypeId} {pos : String} {aft : Array Edge}
/-- 'append([]T{}, s...)', whether s has elements or not: plain data. -/
theorem o_appendq {t : TypeId} {x y : Operand} {te k by_ : Nat} {ys : List (List PV)} {g : Bool} (hx : ev a x = some (V [] true)) (hy : ev a y = some (V ys g)) [hs : SliceC P t te k by_]
    (hok : ∀ z ∈ ys, okB k z = true) (hroom : ys.length ≤ 140737488355) (hN : d < N) (kk : WPs P X N r ops rest Q ds ((d, V ys ys.isEmpty) :: a) h) :
    WPs P X N r ops (⟨some d, .call { callee := .builtin .append, args := #[x, y], argTypes := #[t, t] }, ty, pos, aft, none⟩ :: rest) Q ds a h := by
  rcases ys with _ | ⟨z, s⟩
  · exact o_append00 hx hy rfl hN kk
  · exact o_appendp hx hy (.v _ _) hok (by simp) (by simp) (by simpa using hroom) hN kk
end
theorem badR (d : Dbt) : (!inR d.fr 0 7 || !inR d.to 0 7) = badD d := by
  have e : ∀ c, carOk c = inR c 0 7 := fun c => by unfold carOk inR; rw [Bool.eq_iff_iff]; simp
  simp only [badD, e]
abbrev badK (ds : List Dbt) (k : Nat) : Bool := badD (ds.getD k dD)
structure DcI (l : List Ev) (ds : List Dbt) where
  k : Nat
  cur : List Dbt
  f : Bool
  hk : k ≤ l.length
  hcur : cur = (l.take k).foldl debtE ds
  hl : cur.length ≤ ds.length + k

theorem debts42_spec (w : Wd) (l : List Ev) (hbs : w.blocks.length ≤ 1000000000) (hlen : l.length ≤ 1000000000) (f1 f2 f3 f : Bool) (ds : List Dbt) (hds : ds.length ≤ 900000000 - 1000) (fd : Bool) : Fc Tryz.prog 27 [encW w f1 f2 f3, V (l.map encV) f, V (ds.map encD) fd] [] (fun r h' => (∃ f', r = .tup [V ((debtsM w l ds).1.map encD) f', I (debtsM w l ds).2]) ∧ h' = []) := by
 refine fnE_intro (N := 95) Tryz.func27 rfl rfl rfl ?_
 intro X
 refine h_seq<|H<|o_box Z Z K fun x1 => S Z K<|S Z K<|o_nil<|h_seq<|H<|O 0 Z Z Z Z K<|G Z K<|o_callN Z Z EntC.out K (run42_spec w l hbs hlen f1 f2 f3 f) fun v h' hr => ?_
 obtain ⟨rfl, r1, r2, r3, rfl⟩ := hr
 refine G Z K<|o_extract Z Z K<|o_extract Z Z K<|o_extract Z Z K<|o_alloc K fun x2 => ?_
 refine o_store 0 Z Z Z Z Z Z<|S Z K<|S Z K<|o_nil<|h_seq<|h_seq<|H<|G Z K<|o_cmp Z Z Z K<|o_nil<|h_cond Z (fun c4 => ?_) (fun c4 => ?_)
 ·
  refine h_seq<|H<|S Z K<|S Z K<|o_nil<|h_ret ?_
  have hq : debtsM w l ds = ([], 420) := (by unfold debtsM; rw [if_pos (by simp_all)])
  exact retG [] (.cons (resT rfl) (.cons (resT rfl) .nil)) (List.nil_sublist _) ⟨_, rfl, ⟨true, by rw [hq]; rfl⟩, rfl⟩
 ·
  refine h_skip<|h_seq<|h_seq<|H<|S Z K<|o_nil<|h_block ?_
  have hro : (runM w l).2.2 = 0 := by simp_all
  have hsh := run_shape hro
  refine h_famS (ι := {k : Nat // k ≤ ds.length ∧ ∀ j, j < k → badK ds j = false}) (fun i => [(1, V (l.map encV) f), (2, V (ds.map encD) fd), (11, I (i.1 : Nat))]) (fun i => []) (fun i => ds.length - i.1) ⟨0, Nat.zero_le _, fun j hj => absurd hj (Nat.not_lt_zero j)⟩ (.cons _ (.cons _ (.refl _))) (subT.cons Z (subT.cons Z (subT.cons Z subT.nil))) ?_
  rintro ⟨k, hk, hok⟩
  dsimp only
  by_cases hlt : k < ds.length
  ·
   refine h_seq<|h_seq<|H<|G Z K<|G Z K<|o_len Z K<|o_cmp Z Z Z K<|o_nil<|h_condt Z (by simp; omega) ?_
   refine h_skip<|h_seq<|h_block<|h_seq<|H<|G Z K<|G Z K<|o_idxv Z Z (by omega) (eltDP (by simpa using hlt)) rfl K ?_
   refine o_faddrv Z Z K rfl K<|o_loadv Z Z K<|o_call1 Z Z EntC.out K (in42_spec _ _ _)<|o_not Z K<|G Z K<|o_guard Z Z K (fun g7 => ?_) (fun g7 => ?_)
   ·
    have g7 : _ = false := g7
    refine G Z K<|W Z Z g7 K<|G Z K<|W Z Z g7 K<|o_idxv Z Z (by omega) (eltDP (by simpa using hlt)) rfl K ?_
    refine W Z Z g7 K<|o_faddrv Z Z K rfl K<|W Z Z g7 K<|o_loadv Z Z K<|W Z Z g7 K<|o_call1 Z Z EntC.out K (in42_spec _ _ _)<|W Z Z g7 K<|o_not Z K<|o_pickf Z g7 rfl K<|o_nil<|h_cond Z (fun c9 => ?_) (fun c9 => ?_)
    ·
     refine h_seq<|H<|S Z K<|S Z K<|o_nil<|h_ret ?_
     have hbk : badD (ds.getD k dD) = true := (badR _).symm.trans (show (!inR (ds.getD ((k : Nat) : Int).toNat dD).fr 0 7 || !inR (ds.getD ((k : Nat) : Int).toNat dD).to 0 7) = true by rw [show (!inR (ds.getD ((k : Nat) : Int).toNat dD).fr 0 7) = false from g7, show (!inR (ds.getD ((k : Nat) : Int).toNat dD).to 0 7) = true from c9]; rfl)
     have hq : debtsM w l ds = ([], 420) := (by unfold debtsM; rw [if_pos (by rw [List.any_eq_true.2 ⟨k, List.mem_range.2 hlt, hbk⟩, Bool.or_true])])
     exact retG [] (.cons (resT rfl) (.cons (resT rfl) .nil)) (List.nil_sublist _) ⟨_, rfl, ⟨true, by rw [hq]; rfl⟩, rfl⟩
    ·
     refine h_skip<|H<|G Z K<|o_add Z Z (by unfold in64; (try dsimp only); omega) K ?_
     refine S Z K<|o_nil ?_
     have hbad : badK ds k = false := (badR _).symm.trans (show (!inR (ds.getD ((k : Nat) : Int).toNat dD).fr 0 7 || !inR (ds.getD ((k : Nat) : Int).toNat dD).to 0 7) = false by rw [show (!inR (ds.getD ((k : Nat) : Int).toNat dD).fr 0 7) = false from g7, show (!inR (ds.getD ((k : Nat) : Int).toNat dD).to 0 7) = false from c9]; rfl)
     refine back rfl ⟨k + 1, hlt, fun j hj => (by rcases Nat.lt_succ_iff_lt_or_eq.1 hj with h1 | h1; exact hok j h1; subst h1; exact hbad)⟩ (by dsimp only; omega) (.refl _) (subT.cons Z (subT.cons Z (subT.cons Z subT.nil)))
   ·
    have g7 : _ = true := g7
    refine U Z Z g7 K<|U Z Z g7 K<|U Z Z g7 K<|U Z Z g7 K<|U Z Z g7 K<|U Z Z g7 K<|o_pickt Z g7 rfl K<|o_nil<|h_condt Z Z<|h_seq<|H<|S Z K ?_
    refine S Z K<|o_nil<|h_ret ?_
    have hbk : badD (ds.getD k dD) = true := (badR _).symm.trans (show (!inR (ds.getD ((k : Nat) : Int).toNat dD).fr 0 7 || !inR (ds.getD ((k : Nat) : Int).toNat dD).to 0 7) = true by rw [show (!inR (ds.getD ((k : Nat) : Int).toNat dD).fr 0 7) = true from g7]; rfl)
    have hq : debtsM w l ds = ([], 420) := (by unfold debtsM; rw [if_pos (by rw [List.any_eq_true.2 ⟨k, List.mem_range.2 hlt, hbk⟩, Bool.or_true])])
    exact retG [] (.cons (resT rfl) (.cons (resT rfl) .nil)) (List.nil_sublist _) ⟨_, rfl, ⟨true, by rw [hq]; rfl⟩, rfl⟩
  ·
   obtain rfl : k = ds.length := by omega
   have hnb : (List.range ds.length).any (fun k => badD (ds.getD k dD)) = false := any_no hok
   refine h_seq<|h_seq<|H<|G Z K<|G Z K<|o_len Z K<|o_cmp Z Z Z K<|o_nil<|h_condf Z (by simp <;> omega) ?_
   refine h_exit<|h_seq<|H<|o_buildSlicep Z (by rfl) (by rfl) (by rfl) (by rfl) K ?_
   refine G Z K<|o_appendq Z Z okB_D (by simp <;> omega) K ?_
   refine S Z K<|o_nil<|h_seq<|h_seq<|H<|S Z K<|o_nil<|h_block<|h_famS (ι := DcI l ds) (fun i => [(1, V (l.map encV) f), (12, V (i.cur.map encD) i.f), (13, I (i.k : Nat))]) (fun i => []) (fun i => l.length - i.k) ⟨0, ds, (ds.map encD).isEmpty, Nat.zero_le _, rfl, by omega⟩ (.refl _) (subT.cons Z (subT.cons Z (subT.cons Z subT.nil))) ?_
   rintro ⟨k, cur, fc, hk, hcur, hl⟩
   dsimp only
   have h20 := hsh.1
   by_cases hlt : k < l.length
   ·
    obtain ⟨e, hee⟩ : ∃ e, e = l.getD k dE := ⟨_, rfl⟩
    have hem : -1000000000000 ≤ e.m ∧ e.m ≤ 1000000000000 := hsh.2 e (by rw [hee]; simp [hlt])
    refine h_seq<|h_seq<|H<|G Z K<|G Z K<|o_len Z K<|o_cmp Z Z Z K<|o_nil<|h_condt Z (by simp; omega) ?_
    refine h_skip<|h_seq<|h_block<|h_seq<|H<|G Z K<|G Z K<|o_idxv Z Z (by omega) (show _ = some (encV e) from by rw [eltV (by simpa using hlt)]; simp only [Int.toNat_natCast, ← hee]) rfl K ?_
    refine o_loadv Z Z K<|o_alloc K fun x12 => ?_
    refine o_store 0 Z Z Z Z Z Z<|o_nil<|h_seq<|H<|F Z Z K K<|O 0 Z Z Z Z K<|o_nil<|h_block<|h_seq<|H<|o_cmp Z Z Z K<|S Z K ?_
    refine o_nil<|h_cond Z (fun c14 => ?_) (fun c14 => ?_)
    ·
     refine H<|G Z K<|F Z Z K K<|O 0 Z Z Z Z K<|F Z Z K K<|O 0 Z Z Z Z K<|o_callN Z Z EntC.out K (renamed42_spec cur (by have := owed_len cur e.a e.b e.m; omega) fc e.a e.b) fun v h' hr => ?_
     obtain ⟨⟨fr, rfl⟩, rfl⟩ := hr
     refine S Z K<|o_nil<|H<|G Z K<|o_add Z Z (by unfold in64; (try dsimp only); omega) K ?_
     refine S Z K<|o_nil ?_
     have hq : (renamedM cur e.a e.b) = debtE cur e := by unfold debtE; simp_all
     refine back rfl ⟨k + 1, (renamedM cur e.a e.b), fr, hlt, (by rw [fold_succ hlt, ← hcur, ← hee]; exact hq), (by rw [hq]; have := debtE_len cur e; omega)⟩ (by dsimp only; omega) (.cons _ (.refl _)) (subT.cons Z (subT.cons Z (subT.cons Z subT.nil)))
    ·
     refine h_seq<|H<|o_cmp Z Z Z K<|S Z K<|o_nil<|h_cond Z (fun c16 => ?_) (fun c16 => ?_)
     ·
      refine H<|G Z K<|F Z Z K K<|O 0 Z Z Z Z K<|F Z Z K K<|O 0 Z Z Z Z K<|F Z Z K K<|O 0 Z Z Z Z K<|o_callN Z Z EntC.out K (owed42_spec cur (by omega) fc e.a e.b e.m hem) fun v h' hr => ?_
      obtain ⟨⟨fo, rfl⟩, rfl⟩ := hr
      refine S Z K<|o_nil<|H<|G Z K<|o_add Z Z (by unfold in64; (try dsimp only); omega) K ?_
      refine S Z K<|o_nil ?_
      have hq : (owedM cur e.a e.b e.m) = debtE cur e := by unfold debtE; simp_all
      refine back rfl ⟨k + 1, (owedM cur e.a e.b e.m), fo, hlt, (by rw [fold_succ hlt, ← hcur, ← hee]; exact hq), (by rw [hq]; have := debtE_len cur e; omega)⟩ (by dsimp only; omega) (.cons _ (.refl _)) (subT.cons Z (subT.cons Z (subT.cons Z subT.nil)))
     ·
      refine h_seq<|H<|o_cmp Z Z Z K<|S Z K<|o_nil<|h_cond Z (fun c18 => ?_) (fun c18 => ?_)
      ·
       refine h_draw _ (List.nil_sublist _) [(0, .flo), (1, .flo), (2, .val), (3, .flo), (4, .val), (5, .flo), (6, .val), (8, .flo), (9, .val), (10, .flo), (11, .val), (7, .new), (12, .new), (13, .flo)] mixed (by kernel_rfl)<|C Z Z (fun jj => G Z K jj)<|C Z Z (fun jj => F Z Z K K jj)<|c_val Z Z (fun _ _ _ _ jj => O 0 Z Z Z Z K jj)<|C Z Z (fun jj => F Z Z K K jj)<|c_val Z Z (fun _ _ _ _ jj => O 0 Z Z Z Z K jj)<|C Z Z (fun jj => F Z Z K K jj)<|c_val Z Z (fun _ _ _ _ jj => O 0 Z Z Z Z K jj)<|C Z Z (fun jj => F Z Z K K jj)<|c_val Z Z (fun _ _ _ _ jj => O 0 Z Z Z Z K jj)<|C Z Z (fun jj => F Z Z K K jj)<|c_val Z Z (fun _ _ _ _ jj => O 0 Z Z Z Z K jj) ?_
       refine c_newG (ι := Bool) (fun f => V ((owedM cur e.a e.b e.m).map encD) f) (fun _ => []) rfl rfl (fun X r Q ds k => o_callN Z Z EntC.out K (owed42_spec cur (by omega) fc e.a e.b e.m hem) fun v h' hr => by obtain ⟨⟨f9, rfl⟩, rfl⟩ := hr; exact k f9) fun fo => c_newG (ι := Bool) (fun f => V ((renamedM (owedM cur e.a e.b e.m) e.a e.c).map encD) f) (fun _ => []) rfl rfl (fun X r Q ds k => o_callN Z Z EntC.out K (renamed42_spec (owedM cur e.a e.b e.m) (by have := owed_len cur e.a e.b e.m; omega) fo e.a e.c) fun v h' hr => by obtain ⟨⟨f9, rfl⟩, rfl⟩ := hr; exact k f9) fun fr => ?_
       refine C Z Z (fun jj => S Z K jj)<|c_nil<|H<|G Z K<|o_add Z Z (by unfold in64; (try dsimp only); omega) K ?_
       refine S Z K<|o_nil ?_
       have hq : (renamedM (owedM cur e.a e.b e.m) e.a e.c) = debtE cur e := by unfold debtE; simp_all
       refine back rfl ⟨k + 1, (renamedM (owedM cur e.a e.b e.m) e.a e.c), fr, hlt, (by rw [fold_succ hlt, ← hcur, ← hee]; exact hq), (by rw [hq]; have := debtE_len cur e; omega)⟩ (by dsimp only; omega) (.cons _ (.refl _)) (subT.cons Z (subT.cons Z (subT.cons Z subT.nil)))
      ·
       refine h_skip<|H<|G Z K<|o_add Z Z (by unfold in64; (try dsimp only); omega) K ?_
       refine S Z K<|o_nil ?_
       have hq : cur = debtE cur e := by unfold debtE; simp_all
       refine back rfl ⟨k + 1, cur, fc, hlt, (by rw [fold_succ hlt, ← hcur, ← hee]; exact hq), (by rw [hq]; have := debtE_len cur e; omega)⟩ (by dsimp only; omega) (.cons _ (.refl _)) (subT.cons Z (subT.cons Z (subT.cons Z subT.nil)))
   ·
    obtain rfl : k = l.length := by omega
    refine h_seq<|h_seq<|H<|G Z K<|G Z K<|o_len Z K<|o_cmp Z Z Z K<|o_nil<|h_condf Z (by simp <;> omega) ?_
    refine h_exit<|h_seq<|H<|G Z K<|S Z K<|S Z K<|o_nil<|h_ret ?_
    have hq : debtsM w l ds = (l.foldl debtE ds, 0) := (by unfold debtsM; rw [if_neg (by rw [hnb, Bool.or_false]; simp [hro])])
    rw [List.take_length] at hcur
    exact retG [] (.cons (resT rfl) (.cons (resT rfl) .nil)) (List.nil_sublist _) ⟨_, rfl, ⟨fc, by rw [hq, ← hcur]; rfl⟩, rfl⟩

theorem sameD_spec (x : List Dbt) (hlen : x.length ≤ 1000000000) (f g : Bool) : Fn1 Tryz.prog 28 [V (x.map encD) f, V (x.map encD) g] (B true) := by
 refine fnE_intro (N := 26) Tryz.func28 rfl rfl rfl ?_
 intro X
 refine h_seq<|H<|S Z K<|o_nil<|h_seq<|h_seq<|H<|G Z K<|o_len Z K<|G Z K<|o_len Z K<|o_cmp Z Z Z K ?_
 refine o_nil<|h_condf Z (by simp) ?_
 refine h_skip<|h_seq<|h_seq<|H<|S Z K<|o_nil<|h_block<|h_famS (ι := {k : Nat // k ≤ x.length}) (fun i => [(0, V (x.map encD) f), (1, V (x.map encD) g), (5, I (i.1 : Nat))]) (fun i => []) (fun i => x.length - i.1) ⟨0, Nat.zero_le _⟩ (.refl _) (subT.cons Z (subT.cons Z (subT.cons Z subT.nil))) ?_
 rintro ⟨k, hk⟩
 dsimp only
 by_cases hlt : k < x.length
 ·
  refine h_seq<|h_seq<|H<|G Z K<|G Z K<|o_len Z K<|o_cmp Z Z Z K<|o_nil<|h_condt Z (by simp; omega) ?_
  refine h_skip<|h_seq<|h_block<|h_seq<|h_draw _ (List.nil_sublist _) [(0, .flo), (1, .flo), (2, .flo), (3, .val), (4, .flo), (5, .flo), (6, .flo), (7, .val), (8, .flo)] mixed (by kernel_rfl)<|C Z Z (fun jj => G Z K jj)<|C Z Z (fun jj => G Z K jj)<|C Z Z (fun jj => o_idxv Z Z (by omega) (eltDP (by simpa using hlt)) rfl K jj) ?_
  refine c_val Z Z (fun _ _ _ _ jj => o_loadv Z Z K jj)<|C Z Z (fun jj => G Z K jj)<|C Z Z (fun jj => G Z K jj)<|C Z Z (fun jj => o_idxv Z Z (by omega) (eltDP (by simpa using hlt)) rfl K jj) ?_
  refine c_val Z Z (fun _ _ _ _ jj => o_loadv Z Z K jj)<|C Z Z (fun jj => o_neS Z Z Z Z K jj)<|c_nil<|h_condf Z (by simp [ceqs, ceq]) ?_
  refine h_skip<|H<|G Z K<|o_add Z Z (by unfold in64; (try dsimp only); omega) K ?_
  refine S Z K<|o_nil<|back rfl ⟨k + 1, hlt⟩ (by dsimp only; omega) (.refl _) (subT.cons Z (subT.cons Z (subT.cons Z subT.nil)))
 ·
  refine h_seq<|h_seq<|H<|G Z K<|G Z K<|o_len Z K<|o_cmp Z Z Z K<|o_nil<|h_condf Z (by simp <;> omega) ?_
  exact h_exit<|h_seq<|H<|S Z K<|o_nil<|h_ret<|ret1' Z Z

end Go.Proofs.YtnoicbajhlpndaaGreat
