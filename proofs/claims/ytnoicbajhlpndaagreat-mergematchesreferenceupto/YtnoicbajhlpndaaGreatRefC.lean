/- The walk of the reference's One: some event. -/
import Derived.Test.YtnoicbajhlpndaaGreatRefB
namespace Go.Proofs.YtnoicbajhlpndaaGreat
open Go Go.RowKit Go.Shelf Hp
set_option maxRecDepth 10000
set_option maxHeartbeats 1000000
set_option linter.unusedVariables false
set_option linter.unusedSimpArgs false
attribute [local irreducible] WP WPs FnX IterX YdX RetP PanP Ch Back Join
/-- What is known of a drawn event. -/
structure GoodE (at_ : Int) (e : Ev) : Prop where
  k1 : 1 ≤ e.kind
  k4 : e.kind ≤ 4
  t0 : at_ ≤ e.t
  t4 : e.t ≤ at_ + 4
  a0 : 0 ≤ e.a
  a7 : e.a ≤ 7
  b0 : 0 ≤ e.b
  b7 : e.b ≤ 7
  c0 : 0 ≤ e.c
  c7 : e.c ≤ 7
  m0 : -200 ≤ e.m
  m9 : e.m ≤ 200
theorem m8 {a : Int} (h : 0 ≤ a) : 0 ≤ (a + 1).tmod 8 ∧ (a + 1).tmod 8 ≤ 7 := by
  have h1 := Int.tmod_nonneg 8 (show 0 ≤ a + 1 by omega)
  have h2 := Int.tmod_lt_of_pos (a + 1) (b := 8) (by omega)
  omega
structure OnI (at_ : Int) where
  i : Nat
  e : Ev
  hi : i ≤ 8
  hg : GoodE at_ e
theorem pick4 {c : Int} : 0 ≤ pickM c 4 ∧ pickM c 4 ≤ 3 := by have := pickM_range (c := c) (n := 4) (by omega); omega
theorem pick5 {c : Int} : 0 ≤ pickM c 5 ∧ pickM c 5 ≤ 4 := by have := pickM_range (c := c) (n := 5) (by omega); omega
theorem pick401 {c : Int} : 0 ≤ pickM c 401 ∧ pickM c 401 ≤ 400 := by have := pickM_range (c := c) (n := 401) (by omega); omega

theorem one42_spec (w : Wd) (f1 f2 f3 : Bool) (at_ : Int) (h0 : 0 ≤ at_) (h9 : at_ ≤ 1000000000) (y0 y1 y2 y3 y4 y5 y6 : Int) (hx0 : in64 y0) (hx1 : in64 y1) (hx2 : in64 y2) (hx3 : in64 y3) (hx4 : in64 y4) (hx5 : in64 y5) (hx6 : in64 y6) : Fc Tryz.prog 15 [encW w f1 f2 f3, I at_, .agg [I y0, I y1, I y2, I y3, I y4, I y5, I y6]] [] (fun r h' => (∃ e : Ev, r = encE e ∧ GoodE at_ e) ∧ h' = []) := by
 refine fnE_intro (N := 140) Tryz.func15 rfl rfl rfl ?_
 intro X
 refine h_seq<|H<|o_box Z Z K fun x1 => o_box Z Z K fun x2 => o_alloc K fun x3 => o_nil<|h_seq<|h_draw _ (.cons_cons _ (.cons_cons _ (.cons_cons _ (List.nil_sublist _)))) [(0, .flo), (1, .val), (2, .flo), (3, .flo), (4, .flo), (5, .flo), (6, .val), (7, .flo), (8, .flo), (9, .flo), (10, .val), (11, .flo), (12, .flo), (13, .new), (14, .sto)] mixed (by kernel_rfl)<|C Z Z (fun jj => o_idxa Z Z K K K jj)<|c_val Z Z (fun _ _ _ _ jj => O 1 Z Z Z Z K jj) ?_
 refine C Z Z (fun jj => o_call1 Z Z EntC.out K (pick42_spec _ _ (by assumption) K) jj)<|C Z Z (fun jj => o_add Z Z (by have := pick4 (c := y0); unfold in64; (try dsimp only); omega) K jj) ?_
 refine C Z Z (fun jj => G Z K jj)<|C Z Z (fun jj => o_idxa Z Z K K K jj)<|c_val Z Z (fun _ _ _ _ jj => O 1 Z Z Z Z K jj) ?_
 refine C Z Z (fun jj => o_call1 Z Z EntC.out K (pick42_spec _ _ (by assumption) K) jj)<|C Z Z (fun jj => o_add Z Z (by have := pick5 (c := y1); unfold in64; (try dsimp only); omega) K jj) ?_
 refine C Z Z (fun jj => o_idxa Z Z K K K jj)<|c_val Z Z (fun _ _ _ _ jj => O 1 Z Z Z Z K jj) ?_
 refine C Z Z (fun jj => o_call1 Z Z EntC.out K (pick42_spec _ _ (by assumption) K) jj)<|C Z Z (fun jj => o_build Z Z K jj)<|c_new Z Z (fun _ _ _ _ jj => o_alloc K jj) fun x4 => ?_
 refine c_sto (.cons _ (.cons_cons _ (.cons_cons _ (.cons_cons _ (List.nil_sublist _))))) rfl rfl (fun _ _ _ _ jj => o_store 0 Z Z Z Z Z Z jj)<|c_nil<|h_seqK (ι := {e : Ev // GoodE at_ e}) (fun i => [(3, .ptr x1 0), (5, .ptr x2 0), (6, .ptr x3 0), (7, .ptr x4 0)]) (fun i => [(x4, .box 41 [I i.1.kind, I i.1.t, I i.1.a, I i.1.b, I i.1.c, I i.1.f, I i.1.to, I i.1.m]), (x3, .box 41 [I 0, I 0, I 0, I 0, I 0, I 0, I 0, I 0]), (x2, .box 26 [I y0, I y1, I y2, I y3, I y4, I y5, I y6]), (x1, .box 32 (cellsW w f1 f2 f3))]) ?_ ?_
 ·
  refine h_seq<|H<|S Z K<|o_nil<|h_block<|h_famS (ι := OnI at_) (fun i => [(3, .ptr x1 0), (5, .ptr x2 0), (6, .ptr x3 0), (7, .ptr x4 0), (8, I (i.i : Nat))]) (fun i => (x4, .box 41 [I i.e.kind, I i.e.t, I i.e.a, I i.e.b, I i.e.c, I i.e.f, I i.e.to, I i.e.m]) :: (x3, .box 41 [I 0, I 0, I 0, I 0, I 0, I 0, I 0, I 0]) :: (x2, .box 26 [I y0, I y1, I y2, I y3, I y4, I y5, I y6]) :: (x1, .box 32 (cellsW w f1 f2 f3)) :: []) (fun i => 8 - i.i) ⟨0, ⟨1 + pickM y0 4, at_ + pickM y1 5, pickM y2 8, 0, 0, 0, 0, 0⟩, by omega, ⟨by have := pick4 (c := y0); dsimp only; omega, by have := pick4 (c := y0); dsimp only; omega, by have := pick5 (c := y1); dsimp only; omega, by have := pick5 (c := y1); dsimp only; omega, pick8.1, pick8.2, by simp, by simp, by simp, by simp, by simp, by simp⟩⟩ (.cons_cons _ (.cons_cons _ (.cons_cons _ (.cons_cons _ (.refl _))))) (subT.cons Z (subT.cons Z (subT.cons Z (subT.cons Z (subT.cons Z subT.nil))))) ?_
  rintro ⟨i, e, hi, hg⟩
  dsimp only
  obtain ⟨gk1, gk4, gt0, gt4, ga0, ga7, gb0, gb7, gc0, gc7, gm0, gm9⟩ := id hg
  by_cases hlt : i < 8
  ·
   refine h_seq<|h_seq<|H<|G Z K<|o_cmp Z Z Z K<|G Z K<|W Z Z (by simp; omega) K ?_
   refine F Z Z K K<|W Z Z (by simp; omega) K ?_
   refine O 3 Z Z Z Z K<|W Z Z (by simp; omega) K ?_
   refine F Z Z K K<|W Z Z (by simp; omega) K ?_
   refine O 0 Z Z Z Z K<|W Z Z (by simp; omega) K ?_
   refine o_call1 Z Z EntC.out K (bit42_spec _ _ (by omega) (by omega))<|W Z Z (by simp; omega) K ?_
   refine o_not Z K<|o_pickt Z (by simp; omega) rfl K ?_
   refine o_nil<|h_cond Z (fun c7 => ?_) (fun c7 => ?_)
   ·
    refine h_skip<|h_seq<|h_block<|H<|F Z Z K K<|O 0 Z Z Z Z K<|o_add Z Z (by unfold in64; (try dsimp only); omega) K ?_
    refine o_rem Z Z K K<|F Z Z K K ?_
    refine o_store 0 Z Z Z Z Z Z<|o_nil<|H<|G Z K<|o_add Z Z (by unfold in64; (try dsimp only); omega) K ?_
    refine S Z K<|o_nil<|back rfl ⟨i + 1, { e with a := (e.a + 1).tmod 8 }, hlt, ⟨gk1, gk4, gt0, gt4, (m8 ga0).1, (m8 ga0).2, gb0, gb7, gc0, gc7, gm0, gm9⟩⟩ (by dsimp only; omega) (.cons_cons _ (.cons_cons _ (.cons_cons _ (.cons_cons _ (.refl _))))) (subT.cons Z (subT.cons Z (subT.cons Z (subT.cons Z (subT.cons Z subT.nil)))))
   ·
    exact h_exit<|join rfl ⟨_, hg⟩ (.refl _) (.cons_cons _ (.cons_cons _ (.cons_cons _ (.cons_cons _ (List.nil_sublist _))))) (subT.cons Z (subT.cons Z (subT.cons Z (subT.cons Z subT.nil))))
  ·
   refine h_seq<|h_seq<|H<|G Z K<|o_cmp Z Z Z K<|G Z K<|U Z Z (by simp <;> omega) K ?_
   refine U Z Z (by simp <;> omega) K ?_
   refine U Z Z (by simp <;> omega) K ?_
   refine U Z Z (by simp <;> omega) K ?_
   refine U Z Z (by simp <;> omega) K ?_
   refine U Z Z (by simp <;> omega) K ?_
   refine o_pickf Z (by simp <;> omega) rfl K ?_
   exact o_nil<|h_condf Z Z<|h_exit<|join rfl ⟨_, hg⟩ (.refl _) (.cons_cons _ (.cons_cons _ (.cons_cons _ (.cons_cons _ (List.nil_sublist _))))) (subT.cons Z (subT.cons Z (subT.cons Z (subT.cons Z subT.nil))))
 ·
  rintro ⟨e, hg⟩
  dsimp only
  refine h_seq<|H<|o_idxa Z Z K K K<|O 2 Z Z Z Z K ?_
  refine o_call1 Z Z EntC.out K (pick42_spec _ _ (by assumption) K)<|F Z Z K K ?_
  refine o_store 0 Z Z Z Z Z Z<|o_nil<|h_seq<|H<|o_idxa Z Z K K K<|O 2 Z Z Z Z K ?_
  refine o_call1 Z Z EntC.out K (pick42_spec _ _ (by assumption) K)<|F Z Z K K ?_
  refine o_store 0 Z Z Z Z Z Z<|o_nil<|h_seq<|H<|S Z K<|o_nil<|h_seq<|h_seq<|H<|F Z Z K K<|O 0 Z Z Z Z K<|o_cmp Z Z Z K ?_
  refine o_nil<|h_cond Z (fun c10 => ?_) (fun c10 => ?_)
  ·
   refine H<|S Z K<|o_nil<|h_seq<|H<|F Z Z K K<|O 3 Z Z Z Z K<|S Z K<|o_nil<|h_seq<|h_seq<|H ?_
   refine G Z K<|o_cmp Z Z Z K<|o_nil<|h_condt Z K<|H<|F Z Z K K<|O 3 Z Z Z Z K<|S Z K<|o_nil<|h_seqK (ι := {e : Ev // GoodE at_ e}) (fun i => [(3, .ptr x1 0), (5, .ptr x2 0), (6, .ptr x3 0), (7, .ptr x4 0)]) (fun i => [(x4, .box 41 [I i.1.kind, I i.1.t, I i.1.a, I i.1.b, I i.1.c, I i.1.f, I i.1.to, I i.1.m]), (x3, .box 41 [I 0, I 0, I 0, I 0, I 0, I 0, I 0, I 0]), (x2, .box 26 [I y0, I y1, I y2, I y3, I y4, I y5, I y6]), (x1, .box 32 (cellsW w f1 f2 f3))]) ?_ ?_
   ·
    refine h_seq<|H<|S Z K<|o_nil<|h_block<|h_famS (ι := OnI at_) (fun i => [(3, .ptr x1 0), (5, .ptr x2 0), (6, .ptr x3 0), (7, .ptr x4 0), (9, I 0), (10, I w.ever), (11, I (i.i : Nat))]) (fun i => (x4, .box 41 [I i.e.kind, I i.e.t, I i.e.a, I i.e.b, I i.e.c, I i.e.f, I i.e.to, I i.e.m]) :: (x3, .box 41 [I 0, I 0, I 0, I 0, I 0, I 0, I 0, I 0]) :: (x2, .box 26 [I y0, I y1, I y2, I y3, I y4, I y5, I y6]) :: (x1, .box 32 (cellsW w f1 f2 f3)) :: []) (fun i => 8 - i.i) ⟨0, { e with b := pickM y3 8, c := pickM y4 8 }, by omega, ⟨hg.k1, hg.k4, hg.t0, hg.t4, hg.a0, hg.a7, pick8.1, pick8.2, pick8.1, pick8.2, hg.m0, hg.m9⟩⟩ (.cons_cons _ (.cons_cons _ (.cons_cons _ (.cons_cons _ (.refl _))))) (subT.cons Z (subT.cons Z (subT.cons Z (subT.cons Z (subT.cons Z (subT.cons Z (subT.cons Z subT.nil))))))) ?_
    rintro ⟨i, e, hi, hg⟩
    dsimp only
    obtain ⟨gk1, gk4, gt0, gt4, ga0, ga7, gb0, gb7, gc0, gc7, gm0, gm9⟩ := id hg
    by_cases hlt : i < 8
    ·
     refine h_seq<|h_seq<|H<|G Z K<|o_cmp Z Z Z K<|G Z K<|W Z Z (by simp; omega) K ?_
     refine F Z Z K K<|W Z Z (by simp; omega) K ?_
     refine O 0 Z Z Z Z K<|W Z Z (by simp; omega) K ?_
     refine F Z Z K K<|W Z Z (by simp; omega) K ?_
     refine O 0 Z Z Z Z K<|W Z Z (by simp; omega) K ?_
     refine o_cmp Z Z Z K<|W Z Z (by simp; omega) K ?_
     refine G Z K<|o_guard Z Z K (fun g14 => ?_) (fun g14 => ?_)
     ·
      have g14 : _ = false := g14
      refine G Z K<|W Z Z g14 K<|F Z Z K K<|W Z Z g14 K<|O 0 Z Z Z Z K<|W Z Z g14 K ?_
      refine o_call1 Z Z EntC.out K (bit42_spec _ _ (by omega) (by omega))<|W Z Z g14 K<|G Z K<|W Z Z g14 K<|o_cmp Z Z Z K<|W Z Z g14 K<|o_nebb Z Z K<|W Z Z (by simp; omega) K ?_
      refine o_pickf Z g14 rfl K<|o_pickt Z (by simp; omega) rfl K ?_
      refine o_nil<|h_cond Z (fun c18 => ?_) (fun c18 => ?_)
      ·
       refine h_skip<|h_seq<|h_block<|H<|F Z Z K K<|O 0 Z Z Z Z K<|o_add Z Z (by unfold in64; (try dsimp only); omega) K ?_
       refine o_rem Z Z K K<|F Z Z K K ?_
       refine o_store 0 Z Z Z Z Z Z<|o_nil<|H<|G Z K<|o_add Z Z (by unfold in64; (try dsimp only); omega) K ?_
       refine S Z K<|o_nil<|back rfl ⟨i + 1, { e with b := (e.b + 1).tmod 8 }, hlt, ⟨gk1, gk4, gt0, gt4, ga0, ga7, (m8 gb0).1, (m8 gb0).2, gc0, gc7, gm0, gm9⟩⟩ (by dsimp only; omega) (.cons_cons _ (.cons_cons _ (.cons_cons _ (.cons_cons _ (.refl _))))) (subT.cons Z (subT.cons Z (subT.cons Z (subT.cons Z (subT.cons Z (subT.cons Z (subT.cons Z subT.nil)))))))
      ·
       exact h_exit<|join rfl ⟨_, hg⟩ (.refl _) (.cons_cons _ (.cons_cons _ (.cons_cons _ (.cons_cons _ (List.nil_sublist _))))) (subT.cons Z (subT.cons Z (subT.cons Z (subT.cons Z subT.nil))))
     ·
      have g14 : _ = true := g14
      refine U Z Z g14 K<|U Z Z g14 K<|U Z Z g14 K<|U Z Z g14 K<|U Z Z g14 K<|U Z Z g14 K<|W Z Z (by simp; omega) K ?_
      refine o_pickt Z g14 rfl K<|o_pickt Z (by simp; omega) rfl K ?_
      refine o_nil<|h_condt Z Z<|h_skip<|h_seq<|h_block<|H<|F Z Z K K<|O 0 Z Z Z Z K<|o_add Z Z (by unfold in64; (try dsimp only); omega) K ?_
      refine o_rem Z Z K K<|F Z Z K K ?_
      refine o_store 0 Z Z Z Z Z Z<|o_nil<|H<|G Z K<|o_add Z Z (by unfold in64; (try dsimp only); omega) K ?_
      refine S Z K<|o_nil<|back rfl ⟨i + 1, { e with b := (e.b + 1).tmod 8 }, hlt, ⟨gk1, gk4, gt0, gt4, ga0, ga7, (m8 gb0).1, (m8 gb0).2, gc0, gc7, gm0, gm9⟩⟩ (by dsimp only; omega) (.cons_cons _ (.cons_cons _ (.cons_cons _ (.cons_cons _ (.refl _))))) (subT.cons Z (subT.cons Z (subT.cons Z (subT.cons Z (subT.cons Z (subT.cons Z (subT.cons Z subT.nil)))))))
    ·
     refine h_seq<|h_seq<|H<|G Z K<|o_cmp Z Z Z K<|G Z K<|U Z Z (by simp <;> omega) K ?_
     refine U Z Z (by simp <;> omega) K ?_
     refine U Z Z (by simp <;> omega) K ?_
     refine U Z Z (by simp <;> omega) K ?_
     refine U Z Z (by simp <;> omega) K ?_
     refine U Z Z (by simp <;> omega) K ?_
     refine o_guardx Z Z K<|o_guardx Z Z K<|o_guardx Z Z K<|o_guardx Z Z K<|o_guardx Z Z K<|o_guardx Z Z K<|o_guardx Z Z K<|U Z Z (by simp <;> omega) K ?_
     refine o_pickf Z (by simp <;> omega) rfl K ?_
     exact o_nil<|h_condf Z Z<|h_exit<|join rfl ⟨_, hg⟩ (.refl _) (.cons_cons _ (.cons_cons _ (.cons_cons _ (.cons_cons _ (List.nil_sublist _))))) (subT.cons Z (subT.cons Z (subT.cons Z (subT.cons Z subT.nil))))
   ·
    rintro ⟨e, hg⟩
    dsimp only
    refine h_seqK (ι := {e : Ev // GoodE at_ e}) (fun i => [(3, .ptr x1 0), (5, .ptr x2 0), (6, .ptr x3 0), (7, .ptr x4 0)]) (fun i => [(x4, .box 41 [I i.1.kind, I i.1.t, I i.1.a, I i.1.b, I i.1.c, I i.1.f, I i.1.to, I i.1.m]), (x3, .box 41 [I 0, I 0, I 0, I 0, I 0, I 0, I 0, I 0]), (x2, .box 26 [I y0, I y1, I y2, I y3, I y4, I y5, I y6]), (x1, .box 32 (cellsW w f1 f2 f3))]) ?_ ?_
    ·
     refine h_seq<|H<|S Z K<|o_nil<|h_block<|h_famS (ι := OnI at_) (fun i => [(3, .ptr x1 0), (5, .ptr x2 0), (6, .ptr x3 0), (7, .ptr x4 0), (12, I (i.i : Nat))]) (fun i => (x4, .box 41 [I i.e.kind, I i.e.t, I i.e.a, I i.e.b, I i.e.c, I i.e.f, I i.e.to, I i.e.m]) :: (x3, .box 41 [I 0, I 0, I 0, I 0, I 0, I 0, I 0, I 0]) :: (x2, .box 26 [I y0, I y1, I y2, I y3, I y4, I y5, I y6]) :: (x1, .box 32 (cellsW w f1 f2 f3)) :: []) (fun i => 8 - i.i) ⟨0, e, by omega, hg⟩ (.cons_cons _ (.cons_cons _ (.cons_cons _ (.cons_cons _ (.refl _))))) (subT.cons Z (subT.cons Z (subT.cons Z (subT.cons Z (subT.cons Z subT.nil))))) ?_
     rintro ⟨i, e, hi, hg⟩
     dsimp only
     obtain ⟨gk1, gk4, gt0, gt4, ga0, ga7, gb0, gb7, gc0, gc7, gm0, gm9⟩ := id hg
     by_cases hlt : i < 8
     ·
      refine h_seq<|h_seq<|H<|G Z K<|o_cmp Z Z Z K<|G Z K<|W Z Z (by simp; omega) K ?_
      refine F Z Z K K<|W Z Z (by simp; omega) K ?_
      refine O 0 Z Z Z Z K<|W Z Z (by simp; omega) K ?_
      refine F Z Z K K<|W Z Z (by simp; omega) K ?_
      refine O 0 Z Z Z Z K<|W Z Z (by simp; omega) K ?_
      refine o_cmp Z Z Z K<|W Z Z (by simp; omega) K ?_
      refine G Z K<|o_guard Z Z K (fun g22 => ?_) (fun g22 => ?_)
      ·
       have g22 : _ = false := g22
       refine F Z Z K K<|W Z Z g22 K<|O 3 Z Z Z Z K<|W Z Z g22 K<|F Z Z K K<|W Z Z g22 K<|O 0 Z Z Z Z K<|W Z Z g22 K ?_
       refine o_call1 Z Z EntC.out K (bit42_spec _ _ (by omega) (by omega))<|W Z Z g22 K<|o_not Z K<|W Z Z (by simp; omega) K ?_
       refine o_pickf Z g22 rfl K<|o_pickt Z (by simp; omega) rfl K ?_
       refine o_nil<|h_cond Z (fun c24 => ?_) (fun c24 => ?_)
       ·
        refine h_skip<|h_seq<|h_block<|H<|F Z Z K K<|O 0 Z Z Z Z K<|o_add Z Z (by unfold in64; (try dsimp only); omega) K ?_
        refine o_rem Z Z K K<|F Z Z K K ?_
        refine o_store 0 Z Z Z Z Z Z<|o_nil<|H<|G Z K<|o_add Z Z (by unfold in64; (try dsimp only); omega) K ?_
        refine S Z K<|o_nil<|back rfl ⟨i + 1, { e with c := (e.c + 1).tmod 8 }, hlt, ⟨gk1, gk4, gt0, gt4, ga0, ga7, gb0, gb7, (m8 gc0).1, (m8 gc0).2, gm0, gm9⟩⟩ (by dsimp only; omega) (.cons_cons _ (.cons_cons _ (.cons_cons _ (.cons_cons _ (.refl _))))) (subT.cons Z (subT.cons Z (subT.cons Z (subT.cons Z (subT.cons Z subT.nil)))))
       ·
        exact h_exit<|join rfl ⟨_, hg⟩ (.refl _) (.cons_cons _ (.cons_cons _ (.cons_cons _ (.cons_cons _ (List.nil_sublist _))))) (subT.cons Z (subT.cons Z (subT.cons Z (subT.cons Z subT.nil))))
      ·
       have g22 : _ = true := g22
       refine U Z Z g22 K<|U Z Z g22 K<|U Z Z g22 K<|U Z Z g22 K<|U Z Z g22 K<|W Z Z (by simp; omega) K ?_
       refine o_pickt Z g22 rfl K<|o_pickt Z (by simp; omega) rfl K ?_
       refine o_nil<|h_condt Z Z<|h_skip<|h_seq<|h_block<|H<|F Z Z K K<|O 0 Z Z Z Z K<|o_add Z Z (by unfold in64; (try dsimp only); omega) K ?_
       refine o_rem Z Z K K<|F Z Z K K ?_
       refine o_store 0 Z Z Z Z Z Z<|o_nil<|H<|G Z K<|o_add Z Z (by unfold in64; (try dsimp only); omega) K ?_
       refine S Z K<|o_nil<|back rfl ⟨i + 1, { e with c := (e.c + 1).tmod 8 }, hlt, ⟨gk1, gk4, gt0, gt4, ga0, ga7, gb0, gb7, (m8 gc0).1, (m8 gc0).2, gm0, gm9⟩⟩ (by dsimp only; omega) (.cons_cons _ (.cons_cons _ (.cons_cons _ (.cons_cons _ (.refl _))))) (subT.cons Z (subT.cons Z (subT.cons Z (subT.cons Z (subT.cons Z subT.nil)))))
     ·
      refine h_seq<|h_seq<|H<|G Z K<|o_cmp Z Z Z K<|G Z K<|U Z Z (by simp <;> omega) K ?_
      refine U Z Z (by simp <;> omega) K ?_
      refine U Z Z (by simp <;> omega) K ?_
      refine U Z Z (by simp <;> omega) K ?_
      refine U Z Z (by simp <;> omega) K ?_
      refine U Z Z (by simp <;> omega) K ?_
      refine o_guardx Z Z K<|o_guardx Z Z K<|o_guardx Z Z K<|o_guardx Z Z K<|o_guardx Z Z K<|o_guardx Z Z K<|U Z Z (by simp <;> omega) K ?_
      refine o_pickf Z (by simp <;> omega) rfl K ?_
      exact o_nil<|h_condf Z Z<|h_exit<|join rfl ⟨_, hg⟩ (.refl _) (.cons_cons _ (.cons_cons _ (.cons_cons _ (.cons_cons _ (List.nil_sublist _))))) (subT.cons Z (subT.cons Z (subT.cons Z (subT.cons Z subT.nil))))
    ·
     rintro ⟨e, hg⟩
     dsimp only
     refine h_seq<|H<|o_idxa Z Z K K K<|O 2 Z Z Z Z K<|o_idxa Z Z K K K<|O 2 Z Z Z Z K ?_
     refine o_call1 Z Z EntC.out K (piece_spec _ _ hx5 hx6)<|F Z Z K K ?_
     refine o_store 0 Z Z Z Z Z Z<|o_nil<|h_seq<|H<|o_idxa Z Z K K K<|O 2 Z Z Z Z K ?_
     refine o_call1 Z Z EntC.out K (pick42_spec _ _ (by assumption) K)<|o_sub Z Z (by have := pick401 (c := y6); unfold in64; (try dsimp only); omega) K ?_
     refine F Z Z K K ?_
     refine o_store 0 Z Z Z Z Z Z<|o_nil<|h_seqK (ι := {e : Ev // GoodE at_ e}) (fun i => [(3, .ptr x1 0), (5, .ptr x2 0), (6, .ptr x3 0), (7, .ptr x4 0)]) (fun i => [(x4, .box 41 [I i.1.kind, I i.1.t, I i.1.a, I i.1.b, I i.1.c, I i.1.f, I i.1.to, I i.1.m]), (x3, .box 41 [I 0, I 0, I 0, I 0, I 0, I 0, I 0, I 0]), (x2, .box 26 [I y0, I y1, I y2, I y3, I y4, I y5, I y6]), (x1, .box 32 (cellsW w f1 f2 f3))]) ?_ ?_
     ·
      refine h_seq<|H<|F Z Z K K<|O 0 Z Z Z Z K<|o_cmp Z Z Z K<|o_nil<|h_cond Z (fun c27 => ?_) (fun c27 => ?_)
      ·
       refine H<|F Z Z K K ?_
       exact o_store 0 Z Z Z Z Z Z<|o_nil<|join rfl ⟨⟨e.kind, e.t, e.a, e.b, 0, (pieceR y5 y6).1, (pieceR y5 y6).2, pickM y6 401 - 200⟩, ⟨hg.k1, hg.k4, hg.t0, hg.t4, hg.a0, hg.a7, (by first | exact hg.b0 | simp), (by first | exact hg.b7 | simp), (by first | exact hg.c0 | simp), (by first | exact hg.c7 | simp), (by first | exact hg.m0 | (have := pick401 (c := y6); dsimp only; omega) | simp), (by first | exact hg.m9 | (have := pick401 (c := y6); dsimp only; omega) | simp)⟩⟩ (.refl _) (.cons_cons _ (.cons_cons _ (.cons_cons _ (.cons_cons _ (List.nil_sublist _))))) (subT.cons Z (subT.cons Z (subT.cons Z (subT.cons Z subT.nil))))
      ·
       exact h_skip<|join rfl ⟨⟨e.kind, e.t, e.a, e.b, e.c, (pieceR y5 y6).1, (pieceR y5 y6).2, pickM y6 401 - 200⟩, ⟨hg.k1, hg.k4, hg.t0, hg.t4, hg.a0, hg.a7, (by first | exact hg.b0 | simp), (by first | exact hg.b7 | simp), (by first | exact hg.c0 | simp), (by first | exact hg.c7 | simp), (by first | exact hg.m0 | (have := pick401 (c := y6); dsimp only; omega) | simp), (by first | exact hg.m9 | (have := pick401 (c := y6); dsimp only; omega) | simp)⟩⟩ (.refl _) (.cons_cons _ (.cons_cons _ (.cons_cons _ (.cons_cons _ (List.nil_sublist _))))) (subT.cons Z (subT.cons Z (subT.cons Z (subT.cons Z subT.nil))))
     ·
      rintro ⟨e, hg⟩
      dsimp only
      refine h_seqK (ι := {e : Ev // GoodE at_ e}) (fun i => [(3, .ptr x1 0), (5, .ptr x2 0), (6, .ptr x3 0), (7, .ptr x4 0)]) (fun i => [(x4, .box 41 [I i.1.kind, I i.1.t, I i.1.a, I i.1.b, I i.1.c, I i.1.f, I i.1.to, I i.1.m]), (x3, .box 41 [I 0, I 0, I 0, I 0, I 0, I 0, I 0, I 0]), (x2, .box 26 [I y0, I y1, I y2, I y3, I y4, I y5, I y6]), (x1, .box 32 (cellsW w f1 f2 f3))]) ?_ ?_
      ·
       refine h_seq<|H<|F Z Z K K<|O 0 Z Z Z Z K<|o_cmp Z Z Z K<|G Z K<|o_guard Z Z K (fun g29 => ?_) (fun g29 => ?_)
       ·
        have g29 : _ = false := g29
        refine F Z Z K K<|W Z Z g29 K<|O 0 Z Z Z Z K<|W Z Z g29 K<|o_cmp Z Z Z K<|o_pickf Z g29 rfl K<|o_nil<|h_cond Z (fun c31 => ?_) (fun c31 => ?_)
        ·
         refine h_seq<|H<|o_build Z Z K<|F Z Z K K ?_
         refine o_store 0 Z Z Z Z Z Z<|o_nil<|H<|F Z Z K K ?_
         exact o_store 0 Z Z Z Z Z Z<|o_nil<|join rfl ⟨⟨e.kind, e.t, e.a, e.b, e.c, 0, 0, 0⟩, ⟨hg.k1, hg.k4, hg.t0, hg.t4, hg.a0, hg.a7, (by first | exact hg.b0 | simp), (by first | exact hg.b7 | simp), (by first | exact hg.c0 | simp), (by first | exact hg.c7 | simp), (by first | exact hg.m0 | (have := pick401 (c := y6); dsimp only; omega) | simp), (by first | exact hg.m9 | (have := pick401 (c := y6); dsimp only; omega) | simp)⟩⟩ (.refl _) (.cons_cons _ (.cons_cons _ (.cons_cons _ (.cons_cons _ (List.nil_sublist _))))) (subT.cons Z (subT.cons Z (subT.cons Z (subT.cons Z subT.nil))))
        ·
         exact h_skip<|join rfl ⟨⟨e.kind, e.t, e.a, e.b, e.c, e.f, e.to, e.m⟩, ⟨hg.k1, hg.k4, hg.t0, hg.t4, hg.a0, hg.a7, (by first | exact hg.b0 | simp), (by first | exact hg.b7 | simp), (by first | exact hg.c0 | simp), (by first | exact hg.c7 | simp), (by first | exact hg.m0 | (have := pick401 (c := y6); dsimp only; omega) | simp), (by first | exact hg.m9 | (have := pick401 (c := y6); dsimp only; omega) | simp)⟩⟩ (.refl _) (.cons_cons _ (.cons_cons _ (.cons_cons _ (.cons_cons _ (List.nil_sublist _))))) (subT.cons Z (subT.cons Z (subT.cons Z (subT.cons Z subT.nil))))
       ·
        have g29 : _ = true := g29
        refine U Z Z g29 K<|U Z Z g29 K<|o_pickt Z g29 rfl K<|o_nil<|h_condt Z Z<|h_seq<|H<|o_build Z Z K<|F Z Z K K ?_
        refine o_store 0 Z Z Z Z Z Z<|o_nil<|H<|F Z Z K K ?_
        exact o_store 0 Z Z Z Z Z Z<|o_nil<|join rfl ⟨⟨e.kind, e.t, e.a, e.b, e.c, 0, 0, 0⟩, ⟨hg.k1, hg.k4, hg.t0, hg.t4, hg.a0, hg.a7, (by first | exact hg.b0 | simp), (by first | exact hg.b7 | simp), (by first | exact hg.c0 | simp), (by first | exact hg.c7 | simp), (by first | exact hg.m0 | (have := pick401 (c := y6); dsimp only; omega) | simp), (by first | exact hg.m9 | (have := pick401 (c := y6); dsimp only; omega) | simp)⟩⟩ (.refl _) (.cons_cons _ (.cons_cons _ (.cons_cons _ (.cons_cons _ (List.nil_sublist _))))) (subT.cons Z (subT.cons Z (subT.cons Z (subT.cons Z subT.nil))))
      ·
       rintro ⟨e, hg⟩
       dsimp only
       refine h_seqK (ι := {e : Ev // GoodE at_ e}) (fun i => [(3, .ptr x1 0), (5, .ptr x2 0), (6, .ptr x3 0), (7, .ptr x4 0)]) (fun i => [(x4, .box 41 [I i.1.kind, I i.1.t, I i.1.a, I i.1.b, I i.1.c, I i.1.f, I i.1.to, I i.1.m]), (x3, .box 41 [I 0, I 0, I 0, I 0, I 0, I 0, I 0, I 0]), (x2, .box 26 [I y0, I y1, I y2, I y3, I y4, I y5, I y6]), (x1, .box 32 (cellsW w f1 f2 f3))]) ?_ ?_
       ·
        refine h_seq<|H<|F Z Z K K<|O 0 Z Z Z Z K<|o_cmp Z Z Z K<|o_nil<|h_cond Z (fun c33 => ?_) (fun c33 => ?_)
        ·
         refine H<|F Z Z K K ?_
         exact o_store 0 Z Z Z Z Z Z<|o_nil<|join rfl ⟨⟨e.kind, e.t, e.a, 0, e.c, e.f, e.to, e.m⟩, ⟨hg.k1, hg.k4, hg.t0, hg.t4, hg.a0, hg.a7, (by first | exact hg.b0 | simp), (by first | exact hg.b7 | simp), (by first | exact hg.c0 | simp), (by first | exact hg.c7 | simp), (by first | exact hg.m0 | (have := pick401 (c := y6); dsimp only; omega) | simp), (by first | exact hg.m9 | (have := pick401 (c := y6); dsimp only; omega) | simp)⟩⟩ (.refl _) (.cons_cons _ (.cons_cons _ (.cons_cons _ (.cons_cons _ (List.nil_sublist _))))) (subT.cons Z (subT.cons Z (subT.cons Z (subT.cons Z subT.nil))))
        ·
         exact h_skip<|join rfl ⟨⟨e.kind, e.t, e.a, e.b, e.c, e.f, e.to, e.m⟩, ⟨hg.k1, hg.k4, hg.t0, hg.t4, hg.a0, hg.a7, (by first | exact hg.b0 | simp), (by first | exact hg.b7 | simp), (by first | exact hg.c0 | simp), (by first | exact hg.c7 | simp), (by first | exact hg.m0 | (have := pick401 (c := y6); dsimp only; omega) | simp), (by first | exact hg.m9 | (have := pick401 (c := y6); dsimp only; omega) | simp)⟩⟩ (.refl _) (.cons_cons _ (.cons_cons _ (.cons_cons _ (.cons_cons _ (List.nil_sublist _))))) (subT.cons Z (subT.cons Z (subT.cons Z (subT.cons Z subT.nil))))
       ·
        rintro ⟨e, hg⟩
        dsimp only
        refine h_seq<|H<|O 0 Z Z Z Z K ?_
        exact o_store 1 Z Z Z Z Z Z<|o_nil<|h_ret<|retG [] (.cons (resC 1 rfl rfl rfl) .nil) (List.nil_sublist _) ⟨_, rfl, ⟨e, rfl, hg⟩, rfl⟩
  ·
   refine h_skip<|h_seq<|H<|F Z Z K K<|O 3 Z Z Z Z K<|S Z K<|o_nil<|h_seq<|h_seq<|H<|G Z K<|o_cmp Z Z Z K ?_
   refine o_nil<|h_condf Z K<|h_skip<|h_seqK (ι := {e : Ev // GoodE at_ e}) (fun i => [(3, .ptr x1 0), (5, .ptr x2 0), (6, .ptr x3 0), (7, .ptr x4 0)]) (fun i => [(x4, .box 41 [I i.1.kind, I i.1.t, I i.1.a, I i.1.b, I i.1.c, I i.1.f, I i.1.to, I i.1.m]), (x3, .box 41 [I 0, I 0, I 0, I 0, I 0, I 0, I 0, I 0]), (x2, .box 26 [I y0, I y1, I y2, I y3, I y4, I y5, I y6]), (x1, .box 32 (cellsW w f1 f2 f3))]) ?_ ?_
   ·
    refine h_seq<|H<|S Z K<|o_nil<|h_block<|h_famS (ι := OnI at_) (fun i => [(3, .ptr x1 0), (5, .ptr x2 0), (6, .ptr x3 0), (7, .ptr x4 0), (9, I 1), (10, I w.alive), (11, I (i.i : Nat))]) (fun i => (x4, .box 41 [I i.e.kind, I i.e.t, I i.e.a, I i.e.b, I i.e.c, I i.e.f, I i.e.to, I i.e.m]) :: (x3, .box 41 [I 0, I 0, I 0, I 0, I 0, I 0, I 0, I 0]) :: (x2, .box 26 [I y0, I y1, I y2, I y3, I y4, I y5, I y6]) :: (x1, .box 32 (cellsW w f1 f2 f3)) :: []) (fun i => 8 - i.i) ⟨0, { e with b := pickM y3 8, c := pickM y4 8 }, by omega, ⟨hg.k1, hg.k4, hg.t0, hg.t4, hg.a0, hg.a7, pick8.1, pick8.2, pick8.1, pick8.2, hg.m0, hg.m9⟩⟩ (.cons_cons _ (.cons_cons _ (.cons_cons _ (.cons_cons _ (.refl _))))) (subT.cons Z (subT.cons Z (subT.cons Z (subT.cons Z (subT.cons Z (subT.cons Z (subT.cons Z subT.nil))))))) ?_
    rintro ⟨i, e, hi, hg⟩
    dsimp only
    obtain ⟨gk1, gk4, gt0, gt4, ga0, ga7, gb0, gb7, gc0, gc7, gm0, gm9⟩ := id hg
    by_cases hlt : i < 8
    ·
     refine h_seq<|h_seq<|H<|G Z K<|o_cmp Z Z Z K<|G Z K<|W Z Z (by simp; omega) K ?_
     refine F Z Z K K<|W Z Z (by simp; omega) K ?_
     refine O 0 Z Z Z Z K<|W Z Z (by simp; omega) K ?_
     refine F Z Z K K<|W Z Z (by simp; omega) K ?_
     refine O 0 Z Z Z Z K<|W Z Z (by simp; omega) K ?_
     refine o_cmp Z Z Z K<|W Z Z (by simp; omega) K ?_
     refine G Z K<|o_guard Z Z K (fun g37 => ?_) (fun g37 => ?_)
     ·
      have g37 : _ = false := g37
      refine G Z K<|W Z Z g37 K<|F Z Z K K<|W Z Z g37 K<|O 0 Z Z Z Z K<|W Z Z g37 K ?_
      refine o_call1 Z Z EntC.out K (bit42_spec _ _ (by omega) (by omega))<|W Z Z g37 K<|G Z K<|W Z Z g37 K<|o_cmp Z Z Z K<|W Z Z g37 K<|o_nebb Z Z K<|W Z Z (by simp; omega) K ?_
      refine o_pickf Z g37 rfl K<|o_pickt Z (by simp; omega) rfl K ?_
      refine o_nil<|h_cond Z (fun c41 => ?_) (fun c41 => ?_)
      ·
       refine h_skip<|h_seq<|h_block<|H<|F Z Z K K<|O 0 Z Z Z Z K<|o_add Z Z (by unfold in64; (try dsimp only); omega) K ?_
       refine o_rem Z Z K K<|F Z Z K K ?_
       refine o_store 0 Z Z Z Z Z Z<|o_nil<|H<|G Z K<|o_add Z Z (by unfold in64; (try dsimp only); omega) K ?_
       refine S Z K<|o_nil<|back rfl ⟨i + 1, { e with b := (e.b + 1).tmod 8 }, hlt, ⟨gk1, gk4, gt0, gt4, ga0, ga7, (m8 gb0).1, (m8 gb0).2, gc0, gc7, gm0, gm9⟩⟩ (by dsimp only; omega) (.cons_cons _ (.cons_cons _ (.cons_cons _ (.cons_cons _ (.refl _))))) (subT.cons Z (subT.cons Z (subT.cons Z (subT.cons Z (subT.cons Z (subT.cons Z (subT.cons Z subT.nil)))))))
      ·
       exact h_exit<|join rfl ⟨_, hg⟩ (.refl _) (.cons_cons _ (.cons_cons _ (.cons_cons _ (.cons_cons _ (List.nil_sublist _))))) (subT.cons Z (subT.cons Z (subT.cons Z (subT.cons Z subT.nil))))
     ·
      have g37 : _ = true := g37
      refine U Z Z g37 K<|U Z Z g37 K<|U Z Z g37 K<|U Z Z g37 K<|U Z Z g37 K<|U Z Z g37 K<|W Z Z (by simp; omega) K ?_
      refine o_pickt Z g37 rfl K<|o_pickt Z (by simp; omega) rfl K ?_
      refine o_nil<|h_condt Z Z<|h_skip<|h_seq<|h_block<|H<|F Z Z K K<|O 0 Z Z Z Z K<|o_add Z Z (by unfold in64; (try dsimp only); omega) K ?_
      refine o_rem Z Z K K<|F Z Z K K ?_
      refine o_store 0 Z Z Z Z Z Z<|o_nil<|H<|G Z K<|o_add Z Z (by unfold in64; (try dsimp only); omega) K ?_
      refine S Z K<|o_nil<|back rfl ⟨i + 1, { e with b := (e.b + 1).tmod 8 }, hlt, ⟨gk1, gk4, gt0, gt4, ga0, ga7, (m8 gb0).1, (m8 gb0).2, gc0, gc7, gm0, gm9⟩⟩ (by dsimp only; omega) (.cons_cons _ (.cons_cons _ (.cons_cons _ (.cons_cons _ (.refl _))))) (subT.cons Z (subT.cons Z (subT.cons Z (subT.cons Z (subT.cons Z (subT.cons Z (subT.cons Z subT.nil)))))))
    ·
     refine h_seq<|h_seq<|H<|G Z K<|o_cmp Z Z Z K<|G Z K<|U Z Z (by simp <;> omega) K ?_
     refine U Z Z (by simp <;> omega) K ?_
     refine U Z Z (by simp <;> omega) K ?_
     refine U Z Z (by simp <;> omega) K ?_
     refine U Z Z (by simp <;> omega) K ?_
     refine U Z Z (by simp <;> omega) K ?_
     refine o_guardx Z Z K<|o_guardx Z Z K<|o_guardx Z Z K<|o_guardx Z Z K<|o_guardx Z Z K<|o_guardx Z Z K<|o_guardx Z Z K<|U Z Z (by simp <;> omega) K ?_
     refine o_pickf Z (by simp <;> omega) rfl K ?_
     exact o_nil<|h_condf Z Z<|h_exit<|join rfl ⟨_, hg⟩ (.refl _) (.cons_cons _ (.cons_cons _ (.cons_cons _ (.cons_cons _ (List.nil_sublist _))))) (subT.cons Z (subT.cons Z (subT.cons Z (subT.cons Z subT.nil))))
   ·
    rintro ⟨e, hg⟩
    dsimp only
    refine h_seqK (ι := {e : Ev // GoodE at_ e}) (fun i => [(3, .ptr x1 0), (5, .ptr x2 0), (6, .ptr x3 0), (7, .ptr x4 0)]) (fun i => [(x4, .box 41 [I i.1.kind, I i.1.t, I i.1.a, I i.1.b, I i.1.c, I i.1.f, I i.1.to, I i.1.m]), (x3, .box 41 [I 0, I 0, I 0, I 0, I 0, I 0, I 0, I 0]), (x2, .box 26 [I y0, I y1, I y2, I y3, I y4, I y5, I y6]), (x1, .box 32 (cellsW w f1 f2 f3))]) ?_ ?_
    ·
     refine h_seq<|H<|S Z K<|o_nil<|h_block<|h_famS (ι := OnI at_) (fun i => [(3, .ptr x1 0), (5, .ptr x2 0), (6, .ptr x3 0), (7, .ptr x4 0), (12, I (i.i : Nat))]) (fun i => (x4, .box 41 [I i.e.kind, I i.e.t, I i.e.a, I i.e.b, I i.e.c, I i.e.f, I i.e.to, I i.e.m]) :: (x3, .box 41 [I 0, I 0, I 0, I 0, I 0, I 0, I 0, I 0]) :: (x2, .box 26 [I y0, I y1, I y2, I y3, I y4, I y5, I y6]) :: (x1, .box 32 (cellsW w f1 f2 f3)) :: []) (fun i => 8 - i.i) ⟨0, e, by omega, hg⟩ (.cons_cons _ (.cons_cons _ (.cons_cons _ (.cons_cons _ (.refl _))))) (subT.cons Z (subT.cons Z (subT.cons Z (subT.cons Z (subT.cons Z subT.nil))))) ?_
     rintro ⟨i, e, hi, hg⟩
     dsimp only
     obtain ⟨gk1, gk4, gt0, gt4, ga0, ga7, gb0, gb7, gc0, gc7, gm0, gm9⟩ := id hg
     by_cases hlt : i < 8
     ·
      refine h_seq<|h_seq<|H<|G Z K<|o_cmp Z Z Z K<|G Z K<|W Z Z (by simp; omega) K ?_
      refine F Z Z K K<|W Z Z (by simp; omega) K ?_
      refine O 0 Z Z Z Z K<|W Z Z (by simp; omega) K ?_
      refine F Z Z K K<|W Z Z (by simp; omega) K ?_
      refine O 0 Z Z Z Z K<|W Z Z (by simp; omega) K ?_
      refine o_cmp Z Z Z K<|W Z Z (by simp; omega) K ?_
      refine G Z K<|o_guard Z Z K (fun g45 => ?_) (fun g45 => ?_)
      ·
       have g45 : _ = false := g45
       refine F Z Z K K<|W Z Z g45 K<|O 3 Z Z Z Z K<|W Z Z g45 K<|F Z Z K K<|W Z Z g45 K<|O 0 Z Z Z Z K<|W Z Z g45 K ?_
       refine o_call1 Z Z EntC.out K (bit42_spec _ _ (by omega) (by omega))<|W Z Z g45 K<|o_not Z K<|W Z Z (by simp; omega) K ?_
       refine o_pickf Z g45 rfl K<|o_pickt Z (by simp; omega) rfl K ?_
       refine o_nil<|h_cond Z (fun c47 => ?_) (fun c47 => ?_)
       ·
        refine h_skip<|h_seq<|h_block<|H<|F Z Z K K<|O 0 Z Z Z Z K<|o_add Z Z (by unfold in64; (try dsimp only); omega) K ?_
        refine o_rem Z Z K K<|F Z Z K K ?_
        refine o_store 0 Z Z Z Z Z Z<|o_nil<|H<|G Z K<|o_add Z Z (by unfold in64; (try dsimp only); omega) K ?_
        refine S Z K<|o_nil<|back rfl ⟨i + 1, { e with c := (e.c + 1).tmod 8 }, hlt, ⟨gk1, gk4, gt0, gt4, ga0, ga7, gb0, gb7, (m8 gc0).1, (m8 gc0).2, gm0, gm9⟩⟩ (by dsimp only; omega) (.cons_cons _ (.cons_cons _ (.cons_cons _ (.cons_cons _ (.refl _))))) (subT.cons Z (subT.cons Z (subT.cons Z (subT.cons Z (subT.cons Z subT.nil)))))
       ·
        exact h_exit<|join rfl ⟨_, hg⟩ (.refl _) (.cons_cons _ (.cons_cons _ (.cons_cons _ (.cons_cons _ (List.nil_sublist _))))) (subT.cons Z (subT.cons Z (subT.cons Z (subT.cons Z subT.nil))))
      ·
       have g45 : _ = true := g45
       refine U Z Z g45 K<|U Z Z g45 K<|U Z Z g45 K<|U Z Z g45 K<|U Z Z g45 K<|W Z Z (by simp; omega) K ?_
       refine o_pickt Z g45 rfl K<|o_pickt Z (by simp; omega) rfl K ?_
       refine o_nil<|h_condt Z Z<|h_skip<|h_seq<|h_block<|H<|F Z Z K K<|O 0 Z Z Z Z K<|o_add Z Z (by unfold in64; (try dsimp only); omega) K ?_
       refine o_rem Z Z K K<|F Z Z K K ?_
       refine o_store 0 Z Z Z Z Z Z<|o_nil<|H<|G Z K<|o_add Z Z (by unfold in64; (try dsimp only); omega) K ?_
       refine S Z K<|o_nil<|back rfl ⟨i + 1, { e with c := (e.c + 1).tmod 8 }, hlt, ⟨gk1, gk4, gt0, gt4, ga0, ga7, gb0, gb7, (m8 gc0).1, (m8 gc0).2, gm0, gm9⟩⟩ (by dsimp only; omega) (.cons_cons _ (.cons_cons _ (.cons_cons _ (.cons_cons _ (.refl _))))) (subT.cons Z (subT.cons Z (subT.cons Z (subT.cons Z (subT.cons Z subT.nil)))))
     ·
      refine h_seq<|h_seq<|H<|G Z K<|o_cmp Z Z Z K<|G Z K<|U Z Z (by simp <;> omega) K ?_
      refine U Z Z (by simp <;> omega) K ?_
      refine U Z Z (by simp <;> omega) K ?_
      refine U Z Z (by simp <;> omega) K ?_
      refine U Z Z (by simp <;> omega) K ?_
      refine U Z Z (by simp <;> omega) K ?_
      refine o_guardx Z Z K<|o_guardx Z Z K<|o_guardx Z Z K<|o_guardx Z Z K<|o_guardx Z Z K<|o_guardx Z Z K<|U Z Z (by simp <;> omega) K ?_
      refine o_pickf Z (by simp <;> omega) rfl K ?_
      exact o_nil<|h_condf Z Z<|h_exit<|join rfl ⟨_, hg⟩ (.refl _) (.cons_cons _ (.cons_cons _ (.cons_cons _ (.cons_cons _ (List.nil_sublist _))))) (subT.cons Z (subT.cons Z (subT.cons Z (subT.cons Z subT.nil))))
    ·
     rintro ⟨e, hg⟩
     dsimp only
     refine h_seq<|H<|o_idxa Z Z K K K<|O 2 Z Z Z Z K<|o_idxa Z Z K K K<|O 2 Z Z Z Z K ?_
     refine o_call1 Z Z EntC.out K (piece_spec _ _ hx5 hx6)<|F Z Z K K ?_
     refine o_store 0 Z Z Z Z Z Z<|o_nil<|h_seq<|H<|o_idxa Z Z K K K<|O 2 Z Z Z Z K ?_
     refine o_call1 Z Z EntC.out K (pick42_spec _ _ (by assumption) K)<|o_sub Z Z (by have := pick401 (c := y6); unfold in64; (try dsimp only); omega) K ?_
     refine F Z Z K K ?_
     refine o_store 0 Z Z Z Z Z Z<|o_nil<|h_seqK (ι := {e : Ev // GoodE at_ e}) (fun i => [(3, .ptr x1 0), (5, .ptr x2 0), (6, .ptr x3 0), (7, .ptr x4 0)]) (fun i => [(x4, .box 41 [I i.1.kind, I i.1.t, I i.1.a, I i.1.b, I i.1.c, I i.1.f, I i.1.to, I i.1.m]), (x3, .box 41 [I 0, I 0, I 0, I 0, I 0, I 0, I 0, I 0]), (x2, .box 26 [I y0, I y1, I y2, I y3, I y4, I y5, I y6]), (x1, .box 32 (cellsW w f1 f2 f3))]) ?_ ?_
     ·
      refine h_seq<|H<|F Z Z K K<|O 0 Z Z Z Z K<|o_cmp Z Z Z K<|o_nil<|h_cond Z (fun c50 => ?_) (fun c50 => ?_)
      ·
       refine H<|F Z Z K K ?_
       exact o_store 0 Z Z Z Z Z Z<|o_nil<|join rfl ⟨⟨e.kind, e.t, e.a, e.b, 0, (pieceR y5 y6).1, (pieceR y5 y6).2, pickM y6 401 - 200⟩, ⟨hg.k1, hg.k4, hg.t0, hg.t4, hg.a0, hg.a7, (by first | exact hg.b0 | simp), (by first | exact hg.b7 | simp), (by first | exact hg.c0 | simp), (by first | exact hg.c7 | simp), (by first | exact hg.m0 | (have := pick401 (c := y6); dsimp only; omega) | simp), (by first | exact hg.m9 | (have := pick401 (c := y6); dsimp only; omega) | simp)⟩⟩ (.refl _) (.cons_cons _ (.cons_cons _ (.cons_cons _ (.cons_cons _ (List.nil_sublist _))))) (subT.cons Z (subT.cons Z (subT.cons Z (subT.cons Z subT.nil))))
      ·
       exact h_skip<|join rfl ⟨⟨e.kind, e.t, e.a, e.b, e.c, (pieceR y5 y6).1, (pieceR y5 y6).2, pickM y6 401 - 200⟩, ⟨hg.k1, hg.k4, hg.t0, hg.t4, hg.a0, hg.a7, (by first | exact hg.b0 | simp), (by first | exact hg.b7 | simp), (by first | exact hg.c0 | simp), (by first | exact hg.c7 | simp), (by first | exact hg.m0 | (have := pick401 (c := y6); dsimp only; omega) | simp), (by first | exact hg.m9 | (have := pick401 (c := y6); dsimp only; omega) | simp)⟩⟩ (.refl _) (.cons_cons _ (.cons_cons _ (.cons_cons _ (.cons_cons _ (List.nil_sublist _))))) (subT.cons Z (subT.cons Z (subT.cons Z (subT.cons Z subT.nil))))
     ·
      rintro ⟨e, hg⟩
      dsimp only
      refine h_seqK (ι := {e : Ev // GoodE at_ e}) (fun i => [(3, .ptr x1 0), (5, .ptr x2 0), (6, .ptr x3 0), (7, .ptr x4 0)]) (fun i => [(x4, .box 41 [I i.1.kind, I i.1.t, I i.1.a, I i.1.b, I i.1.c, I i.1.f, I i.1.to, I i.1.m]), (x3, .box 41 [I 0, I 0, I 0, I 0, I 0, I 0, I 0, I 0]), (x2, .box 26 [I y0, I y1, I y2, I y3, I y4, I y5, I y6]), (x1, .box 32 (cellsW w f1 f2 f3))]) ?_ ?_
      ·
       refine h_seq<|H<|F Z Z K K<|O 0 Z Z Z Z K<|o_cmp Z Z Z K<|G Z K<|o_guard Z Z K (fun g52 => ?_) (fun g52 => ?_)
       ·
        have g52 : _ = false := g52
        refine F Z Z K K<|W Z Z g52 K<|O 0 Z Z Z Z K<|W Z Z g52 K<|o_cmp Z Z Z K<|o_pickf Z g52 rfl K<|o_nil<|h_cond Z (fun c54 => ?_) (fun c54 => ?_)
        ·
         refine h_seq<|H<|o_build Z Z K<|F Z Z K K ?_
         refine o_store 0 Z Z Z Z Z Z<|o_nil<|H<|F Z Z K K ?_
         exact o_store 0 Z Z Z Z Z Z<|o_nil<|join rfl ⟨⟨e.kind, e.t, e.a, e.b, e.c, 0, 0, 0⟩, ⟨hg.k1, hg.k4, hg.t0, hg.t4, hg.a0, hg.a7, (by first | exact hg.b0 | simp), (by first | exact hg.b7 | simp), (by first | exact hg.c0 | simp), (by first | exact hg.c7 | simp), (by first | exact hg.m0 | (have := pick401 (c := y6); dsimp only; omega) | simp), (by first | exact hg.m9 | (have := pick401 (c := y6); dsimp only; omega) | simp)⟩⟩ (.refl _) (.cons_cons _ (.cons_cons _ (.cons_cons _ (.cons_cons _ (List.nil_sublist _))))) (subT.cons Z (subT.cons Z (subT.cons Z (subT.cons Z subT.nil))))
        ·
         exact h_skip<|join rfl ⟨⟨e.kind, e.t, e.a, e.b, e.c, e.f, e.to, e.m⟩, ⟨hg.k1, hg.k4, hg.t0, hg.t4, hg.a0, hg.a7, (by first | exact hg.b0 | simp), (by first | exact hg.b7 | simp), (by first | exact hg.c0 | simp), (by first | exact hg.c7 | simp), (by first | exact hg.m0 | (have := pick401 (c := y6); dsimp only; omega) | simp), (by first | exact hg.m9 | (have := pick401 (c := y6); dsimp only; omega) | simp)⟩⟩ (.refl _) (.cons_cons _ (.cons_cons _ (.cons_cons _ (.cons_cons _ (List.nil_sublist _))))) (subT.cons Z (subT.cons Z (subT.cons Z (subT.cons Z subT.nil))))
       ·
        have g52 : _ = true := g52
        refine U Z Z g52 K<|U Z Z g52 K<|o_pickt Z g52 rfl K<|o_nil<|h_condt Z Z<|h_seq<|H<|o_build Z Z K<|F Z Z K K ?_
        refine o_store 0 Z Z Z Z Z Z<|o_nil<|H<|F Z Z K K ?_
        exact o_store 0 Z Z Z Z Z Z<|o_nil<|join rfl ⟨⟨e.kind, e.t, e.a, e.b, e.c, 0, 0, 0⟩, ⟨hg.k1, hg.k4, hg.t0, hg.t4, hg.a0, hg.a7, (by first | exact hg.b0 | simp), (by first | exact hg.b7 | simp), (by first | exact hg.c0 | simp), (by first | exact hg.c7 | simp), (by first | exact hg.m0 | (have := pick401 (c := y6); dsimp only; omega) | simp), (by first | exact hg.m9 | (have := pick401 (c := y6); dsimp only; omega) | simp)⟩⟩ (.refl _) (.cons_cons _ (.cons_cons _ (.cons_cons _ (.cons_cons _ (List.nil_sublist _))))) (subT.cons Z (subT.cons Z (subT.cons Z (subT.cons Z subT.nil))))
      ·
       rintro ⟨e, hg⟩
       dsimp only
       refine h_seqK (ι := {e : Ev // GoodE at_ e}) (fun i => [(3, .ptr x1 0), (5, .ptr x2 0), (6, .ptr x3 0), (7, .ptr x4 0)]) (fun i => [(x4, .box 41 [I i.1.kind, I i.1.t, I i.1.a, I i.1.b, I i.1.c, I i.1.f, I i.1.to, I i.1.m]), (x3, .box 41 [I 0, I 0, I 0, I 0, I 0, I 0, I 0, I 0]), (x2, .box 26 [I y0, I y1, I y2, I y3, I y4, I y5, I y6]), (x1, .box 32 (cellsW w f1 f2 f3))]) ?_ ?_
       ·
        refine h_seq<|H<|F Z Z K K<|O 0 Z Z Z Z K<|o_cmp Z Z Z K<|o_nil<|h_cond Z (fun c56 => ?_) (fun c56 => ?_)
        ·
         refine H<|F Z Z K K ?_
         exact o_store 0 Z Z Z Z Z Z<|o_nil<|join rfl ⟨⟨e.kind, e.t, e.a, 0, e.c, e.f, e.to, e.m⟩, ⟨hg.k1, hg.k4, hg.t0, hg.t4, hg.a0, hg.a7, (by first | exact hg.b0 | simp), (by first | exact hg.b7 | simp), (by first | exact hg.c0 | simp), (by first | exact hg.c7 | simp), (by first | exact hg.m0 | (have := pick401 (c := y6); dsimp only; omega) | simp), (by first | exact hg.m9 | (have := pick401 (c := y6); dsimp only; omega) | simp)⟩⟩ (.refl _) (.cons_cons _ (.cons_cons _ (.cons_cons _ (.cons_cons _ (List.nil_sublist _))))) (subT.cons Z (subT.cons Z (subT.cons Z (subT.cons Z subT.nil))))
        ·
         exact h_skip<|join rfl ⟨⟨e.kind, e.t, e.a, e.b, e.c, e.f, e.to, e.m⟩, ⟨hg.k1, hg.k4, hg.t0, hg.t4, hg.a0, hg.a7, (by first | exact hg.b0 | simp), (by first | exact hg.b7 | simp), (by first | exact hg.c0 | simp), (by first | exact hg.c7 | simp), (by first | exact hg.m0 | (have := pick401 (c := y6); dsimp only; omega) | simp), (by first | exact hg.m9 | (have := pick401 (c := y6); dsimp only; omega) | simp)⟩⟩ (.refl _) (.cons_cons _ (.cons_cons _ (.cons_cons _ (.cons_cons _ (List.nil_sublist _))))) (subT.cons Z (subT.cons Z (subT.cons Z (subT.cons Z subT.nil))))
       ·
        rintro ⟨e, hg⟩
        dsimp only
        refine h_seq<|H<|O 0 Z Z Z Z K ?_
        exact o_store 1 Z Z Z Z Z Z<|o_nil<|h_ret<|retG [] (.cons (resC 1 rfl rfl rfl) .nil) (List.nil_sublist _) ⟨_, rfl, ⟨e, rfl, hg⟩, rfl⟩

end Go.Proofs.YtnoicbajhlpndaaGreat
/- The walks of the laws' own small functions, and of Run with events of one's own. -/
namespace Go.Proofs.YtnoicbajhlpndaaGreat
open Go Go.RowKit Go.Shelf Hp
set_option maxRecDepth 10000
set_option maxHeartbeats 1000000
set_option linter.unusedVariables false
set_option linter.unusedSimpArgs false
attribute [local irreducible] WP WPs FnX IterX YdX RetP PanP Ch Back Join

theorem block1_spec (f t c : Int) : Fn1 Tryz.prog 53 [I f, I t, I c] (.agg [I f, I t, I c]) := by
 refine fnE_intro (N := 12) Tryz.func53 rfl rfl rfl ?_
 intro X
 refine h_seq<|H<|o_alloc K fun x1 => o_nil<|h_seq<|H<|G Z K<|G Z K<|o_build Z Z K<|G Z K<|o_build Z Z K ?_
 exact o_store 0 Z Z Z Z Z Z<|o_nil<|h_ret<|retG [] (.cons (resC 0 rfl rfl rfl) .nil) (List.nil_sublist _) ⟨_, rfl, rfl, rfl⟩

def exW : Wd := ⟨6, 6, [⟨100, 200, 1⟩, ⟨200, 300, 2⟩], [0, 50, -50, 0, 0, 0, 0, 0], [0, 0, 0, 0, 0, 0, 0, 0]⟩
def exE : List Ev := [⟨2, 10, 1, 3, 0, 150, 180, 20⟩, ⟨1, 20, 1, 2, 0, 0, 0, 0⟩]

theorem example_spec : Fn1 Tryz.prog 51 [] (encW exW true true true) := by
 refine fnE_intro (N := 7) Tryz.func51 rfl rfl rfl ?_
 intro X
 refine h_seq<|H<|o_alloc K fun x2 => o_nil<|h_seq<|h_draw _ (List.nil_sublist _) [(0, .flo), (1, .flo), (2, .flo), (3, .flo), (4, .flo), (5, .flo), (6, .sto)] mixed (by kernel_rfl)<|C Z Z (fun jj => o_call1 Z Z EntC.out K (block1_spec _ _ _) jj)<|C Z Z (fun jj => o_call1 Z Z EntC.out K (block1_spec _ _ _) jj)<|C Z Z (fun jj => o_buildSlicep Z (by rfl) (by rfl) (by rfl) (by rfl) K jj) ?_
 refine C Z Z (fun jj => o_buildSlicep Z (by rfl) (by rfl) (by rfl) (by rfl) K jj) ?_
 refine C Z Z (fun jj => o_makeSlicep (n := 8) rfl K jj)<|C Z Z (fun jj => o_build Z Z K jj) ?_
 exact c_sto (List.nil_sublist _) rfl rfl (fun _ _ _ _ jj => o_store 0 Z Z Z Z Z Z jj)<|c_nil<|h_ret<|retG [] (.cons (resC 0 rfl rfl rfl) .nil) (List.nil_sublist _) ⟨_, rfl, rfl, rfl⟩

theorem events_spec : Fn1 Tryz.prog 52 [] (V (exE.map encV) true) := by
 refine fnE_intro (N := 5) Tryz.func52 rfl rfl rfl ?_
 intro X
 refine h_seq<|H<|S Z K<|o_nil<|h_seq<|H<|o_build Z Z K<|o_build Z Z K<|o_build Z Z K<|o_buildSlicep Z (by rfl) (by rfl) (by rfl) (by rfl) K ?_
 exact S Z K<|o_nil<|h_ret<|ret1' Z Z

theorem succeeds_spec (n t k : Int) : Fn1 Tryz.prog 54 [I n, I t, I k] (B (decide ((succM exW exE 1 n t).2 = 0) && decide ((succM exW exE 1 n t).1 = k))) := by
 refine fnE_intro (N := 24) Tryz.func54 rfl rfl rfl ?_
 intro X
 refine h_seq<|H<|S Z K<|o_nil<|h_seq<|H<|o_call1 Z Z EntC.out K example_spec<|o_call1 Z Z EntC.out K events_spec<|G Z K<|G Z K<|o_call1 Z Z EntC.out K (succ_spec exW exE K true true true true 1 _ _)<|G Z K ?_
 refine o_extract Z Z K<|o_extract Z Z K<|S Z K<|S Z K<|o_nil<|h_seq<|H<|G Z K<|o_cmp Z Z Z K<|G Z K<|o_guard Z Z K (fun g4 => ?_) (fun g4 => ?_)
 ·
  have g4 : _ = true := g4
  exact G Z K<|W Z Z g4 K<|G Z K<|W Z Z g4 K<|o_cmp Z Z Z K<|o_pickt Z g4 rfl K<|S Z K<|o_nil<|h_ret<|ret1' Z (B_eq (by simp_all))
 ·
  have g4 : _ = false := g4
  exact U Z Z g4 K<|U Z Z g4 K<|o_pickf Z g4 rfl K<|S Z K<|o_nil<|h_ret<|ret1' Z (B_eq (by simp_all))

theorem made_spec (a0 a1 a2 : Int) (ha0 : in64 a0) (ha1 : in64 a1) (ha2 : in64 a2) (x y : List T3) (hxl : x.length ≤ 1000000000) (hyl : y.length ≤ 1000000000) (hx : ok3 x) (hy : ok3 y) (fx fy : Bool) : Fc Tryz.prog 12 [.agg [I a0, I a1, I a2], V (x.map enc3) fx, V (y.map enc3) fy] [] (fun r h' => (∃ (ds : List Dbt) (f1 f2 f3 f4 : Bool), r = .tup [encW (madeW a0 a1 x a2 ds) f1 f2 f3, V (ds.map encD) f4] ∧ ds.length ≤ 12 ∧ (∀ d ∈ ds, goodD d) ∧ ∀ d ∈ ds, linkD (1 + pickM a0 255) d) ∧ h' = []) := by
 refine fnE_intro (N := 25) Tryz.func12 rfl rfl rfl ?_
 intro X
 refine h_seq<|H<|o_box Z Z K fun x6 => o_alloc K fun x7 => S Z K<|o_nil<|h_seq<|H<|o_idxa Z Z K K K<|O 1 Z Z Z Z K ?_
 refine o_call1 Z Z EntC.out K (pickL_spec _ _ ha0 K)<|o_add Z Z (by have := pickM_range (c := a0) (n := 255) (by omega); unfold in64; (try dsimp only); omega) K ?_
 refine G Z K<|o_callN Z Z EntC.out K (owe_spec _ y hyl hy fy) fun v h' hr => ?_
 obtain ⟨⟨ds, fd, rfl, hdl, hg, hlk⟩, rfl⟩ := hr
 refine S Z K<|o_nil<|h_seq<|H<|o_idxa Z Z K K K<|O 1 Z Z Z Z K<|o_idxa Z Z K K K<|O 1 Z Z Z Z K<|G Z K<|o_idxa Z Z K K K<|O 1 Z Z Z Z K<|G Z K ?_
 refine o_callN Z Z EntC.out K (made42_spec a0 a1 a2 ha0 ha1 ha2 x hxl hx fx ds hdl hg fd) fun v h' hr => ?_
 obtain ⟨⟨f1, f2, f3, rfl⟩, rfl⟩ := hr
 refine G Z K ?_
 exact o_store 0 Z Z Z Z Z Z<|S Z K<|o_nil<|h_ret<|retG [] (.cons (resC 0 rfl rfl rfl) (.cons (resT rfl) .nil)) (List.nil_sublist _) ⟨_, rfl, ⟨ds, f1, f2, f3, fd, rfl, hdl, hg, hlk⟩, rfl⟩

theorem eltVo {l : List Ev} {n : Int} (h : n.toNat < l.length) : (l.map encV)[0 + n.toNat]? = some (encV (l.getD n.toNat dE)) := by rw [Nat.zero_add]; simp [h]

theorem runO_spec (w : Wd) (l : List Ev) (hlen : l.length ≤ 1000000000) (f1 f2 f3 : Bool) (bb cap : Nat) (hc : l.length ≤ cap) : Fc Tryz.prog 21 [encW w f1 f2 f3, .os bb 8 0 l.length cap] [(bb, .arr 41 8 (l.map encV) cap)] (fun r h' => h' = [(bb, .arr 41 8 (l.map encV) cap)] ∧ ∃ f1 f2 f3, r = .tup [encW (runM w l).1 f1 f2 f3, I (runM w l).2.1, I (runM w l).2.2]) := by
 refine fnE_intro (N := 50) Tryz.func21 rfl rfl rfl ?_
 intro X
 refine h_seq<|H<|o_box Z Z K fun x8 => o_alloc K fun x9 => S Z K<|S Z K<|o_nil<|h_seq<|h_seq<|H<|O 1 Z Z Z Z K<|o_call1 Z Z EntC.out K (mvalid_spec w f1 f2 f3) ?_
 refine o_not Z K<|G Z K<|o_guard Z Z K (fun g11 => ?_) (fun g11 => ?_)
 ·
  have g11 : _ = false := g11
  refine G Z K<|W Z Z g11 K<|o_leno Z K<|W Z Z g11 K<|o_cmp Z Z Z K<|o_pickf Z g11 rfl K<|G Z K<|o_guard Z Z K (fun g13 => ?_) (fun g13 => ?_)
  ·
   have g13 : _ = false := g13
   refine G Z K<|W Z Z g13 K<|o_callL 2 Z Z Z EntC.out K (.cons (.os _ _ (by simp) hc) (.cons (.refl _) .nil)) (isSorted_spec l hlen false) ?_
   refine W Z Z g13 K<|o_not Z K<|o_pickf Z g13 rfl K<|o_nil<|h_cond Z (fun c15 => ?_) (fun c15 => ?_)
   ·
    refine h_seq<|H<|o_build Z Z K ?_
    refine o_store 0 Z Z Z Z Z Z<|S Z K<|S Z K<|o_nil<|h_ret ?_
    have hq : runM w l = (wd0, 0, 420) := (by simp only [runM]; rw [if_pos (by simp_all)])
    exact retG [(bb, OB.arr 41 8 (l.map encV) cap)] (.cons (resC 0 rfl rfl rfl) (.cons (resT rfl) (.cons (resT rfl) .nil))) (.cons _ (.cons _ (.cons_cons _ (.refl _)))) ⟨_, rfl, rfl, true, true, true, by rw [hq]; rfl⟩
   ·
    refine h_skip<|h_seq<|H<|O 1 Z Z Z Z K ?_
    have hvv : validW w = true := by simp_all
    have hvp := (valid_iff w).1 hvv
    refine o_callN Z Z EntC.out K (copiedP_spec w f1 f2 f3 hvp) fun v h' hr => ?_
    obtain ⟨fc, rfl, rfl⟩ := hr
    refine o_store 1 Z Z Z Z Z Z<|o_nil<|h_seq<|h_seq<|H<|G Z K<|o_leno Z K<|G Z K<|o_nil<|h_block<|h_famS (ι := RunI w l) (fun i => [(1, .os bb 8 0 l.length cap), (2, .ptr x8 0), (4, .ptr x9 0), (27, .os bb 8 0 l.length cap), (28, I (l.length : Nat)), (29, I (i.k : Nat))]) (fun i => (x9, .box 32 [I 0, I 0, V [] true, V [] true, V [] true]) :: (x8, .box 32 (cellsW i.wk i.f1 i.f2 i.f3)) :: (bb, .arr 41 8 (l.map encV) cap) :: []) (fun i => l.length - i.k) ⟨0, w, fc, false, false, Nat.zero_le _, rfl, hvp⟩ (.cons_cons _ (.cons_cons _ (.cons_cons _ (.refl _)))) (subT.cons Z (subT.cons Z (subT.cons Z (subT.cons Z (subT.cons Z (subT.cons Z subT.nil)))))) ?_
    rintro ⟨k, wk, g1, g2, g3, hk, hr, hv⟩
    dsimp only
    by_cases hlt : k < l.length
    ·
     refine h_seq<|H<|o_cmp Z Z Z K<|o_nil<|h_seq<|h_condt Z (by simp; omega) ?_
     refine h_skip<|h_seq<|h_block<|h_seq<|H<|G Z K<|o_idxo Z Z (by omega) (by simpa using hlt) K ?_
     refine o_loade 2 Z Z (eltVo (by simpa using hlt)) rfl rfl K ?_
     refine o_alloc K fun x17 => S Z K ?_
     refine o_store 0 Z Z Z Z Z Z<|o_nil<|h_seq<|H<|O 2 Z Z Z Z K<|O 0 Z Z Z Z K<|o_callNE Z Z EntC.out K (step_spec wk (l.getD k dE) g1 g2 g3 hv (by have := valid_len hv.blk; omega)) (fun v h' hr => ?_) (fun c h' hr => by obtain ⟨_, ⟨_, _, _, h2⟩ | ⟨_, h2⟩⟩ := hr <;> cases h2)
     obtain ⟨rfl, ⟨w', f', hs, h2⟩ | ⟨hs, h2⟩⟩ := hr
     ·
      cases h2
      refine G Z K<|o_extract Z Z K<|o_extract Z Z K<|o_alloc K fun x18 => ?_
      refine o_store 0 Z Z Z Z Z Z<|S Z K<|o_nil<|h_seq<|h_seq<|H<|G Z K<|o_cmp Z Z Z K<|o_nil<|h_condf Z K<|h_skip<|H ?_
      refine O 0 Z Z Z Z K ?_
      refine o_store 3 Z Z Z Z Z Z<|o_nil<|H<|o_add Z Z (by unfold in64; (try dsimp only); omega) K ?_
      refine G Z K<|o_nil<|back rfl ⟨k + 1, w', f', false, false, hlt, (by rw [hr, drop_k hlt]; simp only [runL, hs]; rfl), (valid_iff w').1 (stepW_valid hs)⟩ (by dsimp only; omega) (.cons _ (.cons _ (.cons_cons _ (.cons_cons _ (.cons_cons _ (.refl _)))))) (subT.cons Z (subT.cons Z (subT.cons Z (subT.cons Z (subT.cons Z (subT.cons Z subT.nil))))))
     ·
      cases h2
      refine G Z K<|o_extract Z Z K<|o_extract Z Z K<|o_alloc K fun x20 => ?_
      refine o_store 0 Z Z Z Z Z Z<|S Z K<|o_nil<|h_seq<|h_seq<|H<|G Z K<|o_cmp Z Z Z K<|o_nil<|h_condt Z K<|h_seq<|H ?_
      refine o_build Z Z K<|G Z K<|G Z K ?_
      refine o_store 2 Z Z Z Z Z Z<|S Z K<|S Z K<|o_nil<|h_ret ?_
      have hq : runM w l = (wd0, (k : Int), 420) := (by simp only [runM]; rw [if_neg (by simp_all), hr, drop_k hlt]; simp only [runL, hs])
      exact retG [(bb, OB.arr 41 8 (l.map encV) cap)] (.cons (resC 2 rfl rfl rfl) (.cons (resT rfl) (.cons (resT rfl) .nil))) (.cons _ (.cons _ (.cons _ (.cons _ (.cons_cons _ (.refl _)))))) ⟨_, rfl, rfl, true, true, true, by rw [hq]; rfl⟩
    ·
     obtain rfl : k = l.length := by omega
     refine h_seq<|H<|o_cmp Z Z Z K<|o_nil<|h_seq<|h_condf Z (by simp) ?_
     refine h_exit<|h_seq<|H<|O 1 Z Z Z Z K<|G Z K<|o_leno Z K ?_
     refine o_store 0 Z Z Z Z Z Z<|S Z K<|S Z K<|o_nil<|h_ret ?_
     have hq : runM w l = (wk, ((l.length : Nat) : Int), 0) := (by simp only [runM]; rw [if_neg (by simp_all), hr, List.drop_length]; simp only [runL])
     exact retG [(bb, OB.arr 41 8 (l.map encV) cap)] (.cons (resC 0 rfl rfl rfl) (.cons (resT rfl) (.cons (resT rfl) .nil))) (.cons _ (.cons _ (.cons_cons _ (.refl _)))) ⟨_, rfl, rfl, g1, g2, g3, by rw [hq]; rfl⟩
  ·
   have g13 : _ = true := g13
   refine U Z Z g13 K<|U Z Z g13 K<|o_pickt Z g13 rfl K<|o_nil<|h_condt Z Z<|h_seq<|H<|o_build Z Z K ?_
   refine o_store 0 Z Z Z Z Z Z<|S Z K<|S Z K<|o_nil<|h_ret ?_
   have hq : runM w l = (wd0, 0, 420) := (by simp only [runM]; rw [if_pos (by simp_all)])
   exact retG [(bb, OB.arr 41 8 (l.map encV) cap)] (.cons (resC 0 rfl rfl rfl) (.cons (resT rfl) (.cons (resT rfl) .nil))) (.cons _ (.cons _ (.cons_cons _ (.refl _)))) ⟨_, rfl, rfl, true, true, true, by rw [hq]; rfl⟩
 ·
  have g11 : _ = true := g11
  refine U Z Z g11 K<|U Z Z g11 K<|o_pickt Z g11 rfl K<|G Z K<|U Z Z Z K<|U Z Z Z K<|U Z Z Z K<|o_pickt Z Z Z K<|o_nil<|h_condt Z Z<|h_seq<|H ?_
  refine o_build Z Z K ?_
  refine o_store 0 Z Z Z Z Z Z<|S Z K<|S Z K<|o_nil<|h_ret ?_
  have hq : runM w l = (wd0, 0, 420) := (by simp only [runM]; rw [if_pos (by simp_all)])
  exact retG [(bb, OB.arr 41 8 (l.map encV) cap)] (.cons (resC 0 rfl rfl rfl) (.cons (resT rfl) (.cons (resT rfl) .nil))) (.cons _ (.cons _ (.cons_cons _ (.refl _)))) ⟨_, rfl, rfl, true, true, true, by rw [hq]; rfl⟩

end Go.Proofs.YtnoicbajhlpndaaGreat
/- The walk of the laws' check of the chapter's examples. -/
namespace Go.Proofs.YtnoicbajhlpndaaGreat
open Go Go.RowKit Go.Shelf Hp
set_option maxRecDepth 10000
set_option maxHeartbeats 1000000
set_option linter.unusedVariables false
set_option linter.unusedSimpArgs false
attribute [local irreducible] WP WPs FnX IterX YdX RetP PanP Ch Back Join
def exA : List Ev := exE ++ [⟨2, 30, 2, 1, 0, 100, 110, 0⟩]
def exU : List Ev := exE ++ [⟨4, 30, 2, 0, 0, 0, 0, 0⟩, ⟨4, 30, 3, 0, 0, 0, 0, 0⟩, ⟨4, 40, 2, 0, 0, 0, 0, 0⟩]
def exU4 : List Ev := exU ++ [⟨4, 40, 2, 0, 0, 0, 0, 0⟩]
def exW1 : Wd := ⟨14, 14, [⟨100, 150, 1⟩, ⟨150, 180, 3⟩, ⟨180, 200, 1⟩, ⟨200, 300, 2⟩], [0, 30, -50, 20, 0, 0, 0, 0], [0, 0, 0, 0, 0, 0, 0, 0]⟩
def exW2 : Wd := ⟨12, 14, [⟨100, 150, 2⟩, ⟨150, 180, 3⟩, ⟨180, 300, 2⟩], [0, 0, -20, 20, 0, 0, 0, 0], [0, 0, 0, 0, 0, 0, 0, 0]⟩
def exW3 : Wd := ⟨12, 14, [⟨100, 150, 2⟩, ⟨150, 180, 3⟩, ⟨180, 300, 2⟩], [0, 0, -20, 20, 0, 0, 0, 0], [0, 0, 2, 1, 0, 0, 0, 0]⟩
def exC : Cl := ⟨100, 1, 2, 4, 0, false⟩
theorem ex1 : stepM exW ⟨2, 10, 1, 3, 0, 150, 180, 20⟩ = (exW1, 0) := by kernel_rfl
theorem ex2 : runM exW exE = (exW2, 2, 0) := by kernel_rfl
theorem ex3 : runM exW exA = (wd0, 2, 420) := by kernel_rfl
theorem ex4 : runM exW exU = (exW3, 5, 0) := by kernel_rfl
theorem ex5 : runM exW exU4 = (wd0, 5, 420) := by kernel_rfl
theorem ex6 : claimM exW exE exC 5 = (exC, true) := by kernel_rfl
theorem ex7 : claimM exW exE exC 20 = (⟨0, 0, 0, 0, 0, false⟩, false) := by kernel_rfl
theorem ex8 : debtsM exW exE [⟨2, 1, 50⟩] = ([⟨2, 3, 20⟩], 0) := by kernel_rfl
theorem step_ex : Fc Tryz.prog 16 [encW exW true true true, encE ⟨2, 10, 1, 3, 0, 150, 180, 20⟩] [] (RW (exW1, 0)) := ex1 ▸ mStep_spec exW ⟨2, 10, 1, 3, 0, 150, 180, 20⟩ true true true
theorem run_ex : Fc Tryz.prog 21 [encW exW true true true, V (exE.map encV) true] [] (RunR (exW2, 2, 0)) := ex2 ▸ run_spec exW exE dQ true true true true
theorem debts_ex : Fc Tryz.prog 26 [encW exW true true true, V (exE.map encV) true, V ([(⟨2, 1, 50⟩ : Dbt)].map encD) true] [] (fun r h' => (∃ f', r = .tup [V ([(⟨2, 3, 20⟩ : Dbt)].map encD) f', I 0]) ∧ h' = []) := by
  have h := debts_spec exW exE dQ true true true true [⟨2, 1, 50⟩] dQ true
  rw [ex8] at h; exact h
theorem claim_ex5 : Fn1 Tryz.prog 40 [encW exW true true true, V (exE.map encV) true, encC exC, I 5] (.tup [encC exC, B true]) := by
  have h := claim_spec exW exE dQ true true true true exC 5
  rw [ex6] at h; exact h
theorem claim_ex20 : Fn1 Tryz.prog 40 [encW exW true true true, V (exE.map encV) true, encC exC, I 20] (.tup [encC ⟨0, 0, 0, 0, 0, false⟩, B false]) := by
  have h := claim_spec exW exE dQ true true true true exC 20
  rw [ex7] at h; exact h
theorem runO_ex (l : List Ev) (p : Wd × Int × Int) (hp : runM exW l = p) (hl : l.length ≤ 1000000000) (bb cap n : Nat) (hn : n = l.length) (hc : n ≤ cap) (es : List (List PV)) (he : es = l.map encV) : Fc Tryz.prog 21 [encW exW true true true, .os bb 8 0 n cap] [(bb, .arr 41 8 es cap)] (fun r h' => h' = [(bb, .arr 41 8 (l.map encV) cap)] ∧ ∃ f1 f2 f3, r = .tup [encW p.1 f1 f2 f3, I p.2.1, I p.2.2]) := by
  subst hn; subst he; subst hp; exact runO_spec exW l hl true true true bb cap hc

theorem sane_spec : Fn1 Tryz.prog 11 [] (B true) := by
 refine fnE_intro (N := 213) Tryz.func11 rfl rfl rfl ?_
 intro X
 refine h_seq<|H<|S Z K<|o_nil<|h_seq<|H<|o_call1 Z Z EntC.out K example_spec<|o_call1 Z Z EntC.out K events_spec<|o_idxv Z Z (by omega) rfl rfl K<|o_loadv Z Z K<|o_callN Z Z EntC.out K step_ex fun v h' hr => ?_
 obtain ⟨rfl, u1, u2, u3, rfl⟩ := hr
 refine G Z K<|o_extract Z Z K<|o_extract Z Z K<|o_alloc K fun x1 => ?_
 refine o_store 0 Z Z Z Z Z Z<|S Z K<|o_nil<|h_seq<|H<|o_call1 Z Z EntC.out K example_spec<|o_call1 Z Z EntC.out K events_spec<|o_callN Z Z EntC.out K run_ex fun v h' hr => ?_
 obtain ⟨rfl, v1, v2, v3, rfl⟩ := hr
 refine G Z K<|o_extract Z Z K<|o_extract Z Z K<|o_extract Z Z K<|o_alloc K fun x2 => ?_
 refine o_store 0 Z Z Z Z Z Z<|S Z K<|S Z K<|o_nil<|h_seq<|H<|o_call1 Z Z EntC.out K events_spec<|o_build Z Z K<|o_build Z Z K<|o_buildSlicep Z (by rfl) (by rfl) (by rfl) (by rfl) K ?_
 refine o_appendv Z Z (Src.v _ _) (okB_all rfl) K K (by simp [chunk_length]; try decide) K fun x3 c4 hc5 => ?_
 refine S Z K<|o_nil<|h_seq<|H<|o_call1 Z Z EntC.out K example_spec<|G Z K<|o_callB 0 (ob := .arr 41 8 _ _) (R := fun r ob' => ob' = OB.arr 41 8 ((exA).map encV) c4 ∧ ∃ f1 f2 f3, r = .tup [encW (wd0, 2, 420).1 f1 f2 f3, I (wd0, 2, 420).2.1, I (wd0, 2, 420).2.2]) rfl rfl rfl EntC.out K ((runO_ex exA (wd0, 2, 420) ex3 K _ _ _ (by rfl) (by simpa [chunk_length, exE] using hc5) _ (by rfl)).mono fun r h' ⟨h1, h2⟩ => ⟨_, h1, And.intro rfl h2⟩) fun v ob' hr => ?_
 obtain ⟨rfl, q50, r50, s50, rfl⟩ := hr
 refine G Z K<|o_extract Z Z K<|o_extract Z Z K<|o_extract Z Z K<|o_alloc K fun x6 => ?_
 refine o_store 0 Z Z Z Z Z Z<|S Z K<|S Z K<|o_nil<|h_seq<|H<|o_call1 Z Z EntC.out K events_spec<|o_build Z Z K<|o_build Z Z K<|o_build Z Z K<|o_buildSlicep Z (by rfl) (by rfl) (by rfl) (by rfl) K ?_
 refine o_appendv Z Z (Src.v _ _) (okB_all rfl) K K (by simp [chunk_length]; try decide) K fun x7 c8 hc9 => ?_
 refine S Z K<|o_nil<|h_seq<|H<|o_call1 Z Z EntC.out K example_spec<|G Z K<|o_callB 0 (ob := .arr 41 8 _ _) (R := fun r ob' => ob' = OB.arr 41 8 ((exU).map encV) c8 ∧ ∃ f1 f2 f3, r = .tup [encW (exW3, 5, 0).1 f1 f2 f3, I (exW3, 5, 0).2.1, I (exW3, 5, 0).2.2]) rfl rfl rfl EntC.out K ((runO_ex exU (exW3, 5, 0) ex4 K _ _ _ (by rfl) (by simpa [chunk_length, exE] using hc9) _ (by rfl)).mono fun r h' ⟨h1, h2⟩ => ⟨_, h1, And.intro rfl h2⟩) fun v ob' hr => ?_
 obtain ⟨rfl, q63, r63, s63, rfl⟩ := hr
 refine G Z K<|o_extract Z Z K<|o_extract Z Z K<|o_extract Z Z K<|o_alloc K fun x10 => ?_
 refine o_store 0 Z Z Z Z Z Z<|S Z K<|S Z K<|o_nil<|h_seq<|H<|o_call1 Z Z EntC.out K example_spec<|G Z K<|o_build Z Z K<|o_buildSlicep Z (by rfl) (by rfl) (by rfl) (by rfl) K ?_
 refine o_append 1 Z Z Z (Src.v _ _) (okB_all rfl) (by rfl) (by simp [chunk_length]; try decide) K fun x11 c12 hc13 => ?_
 refine o_callB 1 (ob := .arr 41 8 _ _) (R := fun r ob' => ob' = OB.arr 41 8 ((exU4).map encV) c12 ∧ ∃ f1 f2 f3, r = .tup [encW (wd0, 5, 420).1 f1 f2 f3, I (wd0, 5, 420).2.1, I (wd0, 5, 420).2.2]) rfl rfl rfl EntC.out K ((runO_ex exU4 (wd0, 5, 420) ex5 K _ _ _ (by rfl) (by simpa [chunk_length, exE] using hc13) _ (by rfl)).mono fun r h' ⟨h1, h2⟩ => ⟨_, h1, And.intro rfl h2⟩) fun v ob' hr => ?_
 obtain ⟨rfl, q73, r73, s73, rfl⟩ := hr
 refine G Z K<|o_extract Z Z K<|o_extract Z Z K<|o_extract Z Z K<|o_alloc K fun x14 => ?_
 refine o_store 0 Z Z Z Z Z Z<|S Z K<|S Z K<|o_nil<|h_seq<|H<|o_build Z Z K<|o_alloc K fun x15 => ?_
 refine o_store 0 Z Z Z Z Z Z<|o_nil<|h_seq<|h_draw _ (.cons_cons _ (.cons_cons _ (.cons_cons _ (.cons _ (.cons_cons _ (.cons _ (.cons_cons _ (.cons_cons _ (List.nil_sublist _))))))))) [(0, .flo), (1, .flo), (2, .box), (3, .flo), (4, .flo), (5, .flo), (6, .flo), (7, .new), (8, .sto), (9, .flo)] mixed (by kernel_rfl)<|C Z Z (fun jj => o_call1 Z Z EntC.out K example_spec jj)<|C Z Z (fun jj => o_call1 Z Z EntC.out K events_spec jj)<|c_box Z Z (fun _ _ _ _ jj => O 0 Z Z Z Z K jj)<|C Z Z (fun jj => o_call1 Z Z EntC.out K claim_ex5 jj)<|C Z Z (fun jj => G Z K jj)<|C Z Z (fun jj => o_extract Z Z K jj)<|C Z Z (fun jj => o_extract Z Z K jj)<|c_new Z Z (fun _ _ _ _ jj => o_alloc K jj) fun x16 => ?_
 refine c_sto (.cons _ (.cons_cons _ (.cons_cons _ (.cons_cons _ (.cons _ (.cons_cons _ (.cons _ (.cons_cons _ (.cons_cons _ (List.nil_sublist _)))))))))) rfl rfl (fun _ _ _ _ jj => o_store 0 Z Z Z Z Z Z jj)<|C Z Z (fun jj => S Z K jj)<|c_nil<|h_seq<|h_draw _ (.cons_cons _ (.cons_cons _ (.cons_cons _ (.cons_cons _ (.cons _ (.cons_cons _ (.cons _ (.cons_cons _ (.cons_cons _ (List.nil_sublist _)))))))))) [(0, .flo), (1, .flo), (2, .box), (3, .flo), (4, .flo), (5, .flo), (6, .flo), (7, .new), (8, .sto), (9, .flo)] mixed (by kernel_rfl)<|C Z Z (fun jj => o_call1 Z Z EntC.out K example_spec jj)<|C Z Z (fun jj => o_call1 Z Z EntC.out K events_spec jj)<|c_box Z Z (fun _ _ _ _ jj => O 1 Z Z Z Z K jj)<|C Z Z (fun jj => o_call1 Z Z EntC.out K claim_ex20 jj)<|C Z Z (fun jj => G Z K jj)<|C Z Z (fun jj => o_extract Z Z K jj)<|C Z Z (fun jj => o_extract Z Z K jj) ?_
 refine c_new Z Z (fun _ _ _ _ jj => o_alloc K jj) fun x17 => ?_
 refine c_sto (.cons _ (.cons_cons _ (.cons_cons _ (.cons_cons _ (.cons_cons _ (.cons _ (.cons_cons _ (.cons _ (.cons_cons _ (.cons_cons _ (List.nil_sublist _))))))))))) rfl rfl (fun _ _ _ _ jj => o_store 0 Z Z Z Z Z Z jj)<|C Z Z (fun jj => S Z K jj)<|c_nil<|h_seq<|H<|o_call1 Z Z EntC.out K example_spec<|o_call1 Z Z EntC.out K events_spec<|o_build Z Z K<|o_buildSlicep Z (by rfl) (by rfl) (by rfl) (by rfl) K ?_
 refine o_callN Z Z EntC.out K debts_ex fun v h' hr => ?_
 obtain ⟨⟨fd, rfl⟩, rfl⟩ := hr
 refine G Z K<|o_extract Z Z K<|o_extract Z Z K<|S Z K<|S Z K<|o_nil<|h_seq<|h_seq<|H<|G Z K<|o_cmp Z Z Z K<|G Z K ?_
 refine W Z Z K K<|G Z K<|W Z Z K K<|o_cmp Z Z Z K<|o_pickf Z K rfl K<|G Z K<|W Z Z K K<|G Z K<|W Z Z K K<|o_cmp Z Z Z K<|o_pickf Z K rfl K<|G Z K ?_
 refine W Z Z K K<|G Z K<|W Z Z K K<|o_cmp Z Z Z K<|o_pickf Z K rfl K<|G Z K<|W Z Z K K<|G Z K<|W Z Z K K<|o_cmp Z Z Z K<|o_pickf Z K rfl K<|G Z K ?_
 refine W Z Z K K<|G Z K<|W Z Z K K<|o_cmp Z Z Z K<|o_pickf Z K rfl K<|G Z K<|W Z Z K K<|G Z K<|W Z Z K K<|o_cmp Z Z Z K<|o_pickf Z K rfl K<|G Z K ?_
 refine W Z Z K K<|G Z K<|W Z Z K K<|o_cmp Z Z Z K<|o_pickf Z K rfl K<|G Z K<|W Z Z K K<|G Z K<|W Z Z K K<|o_cmp Z Z Z K<|o_pickf Z K rfl K<|G Z K ?_
 refine W Z Z K K<|G Z K<|W Z Z K K<|o_cmp Z Z Z K<|o_pickf Z K rfl K<|G Z K<|W Z Z K K<|G Z K<|W Z Z K K<|o_not Z K<|o_pickf Z K rfl K<|G Z K ?_
 refine W Z Z Z K<|G Z K<|o_pickf Z Z Z K<|G Z K<|W Z Z Z K<|O 1 Z Z Z Z K<|W Z Z Z K<|O 2 Z Z Z Z K<|W Z Z Z K<|o_neS Z Z Z Z K<|o_pickf Z Z Z K<|G Z K ?_
 refine W Z Z K K<|G Z K<|W Z Z K K<|o_len Z K<|W Z Z K K<|o_cmp Z Z Z K<|o_pickf Z K rfl K<|o_nil<|h_condf Z K<|h_skip<|h_seq<|h_draw _ (List.nil_sublist _) [(0, .val), (1, .flo), (2, .flo), (3, .flo), (4, .flo), (5, .flo), (6, .flo), (7, .flo), (8, .flo), (9, .flo), (10, .flo)] mixed (by kernel_rfl) ?_
 refine c_val Z Z (fun _ _ _ _ jj => O 9 Z Z Z Z K jj)<|C Z Z (fun jj => o_call1 Z Z EntC.out K (block1_spec _ _ _) jj)<|C Z Z (fun jj => o_call1 Z Z EntC.out K (block1_spec _ _ _) jj)<|C Z Z (fun jj => o_call1 Z Z EntC.out K (block1_spec _ _ _) jj)<|C Z Z (fun jj => o_call1 Z Z EntC.out K (block1_spec _ _ _) jj)<|C Z Z (fun jj => o_buildSlicep Z (by rfl) (by rfl) (by rfl) (by rfl) K jj) ?_
 refine C Z Z (fun jj => o_buildSlicep Z (by rfl) (by rfl) (by rfl) (by rfl) K jj) ?_
 refine C Z Z (fun jj => o_makeSlicep (n := 8) rfl K jj)<|C Z Z (fun jj => o_build Z Z K jj)<|C Z Z (fun jj => o_call1 Z Z EntC.out K (same42_spec exW1 exW1 (by unfold smallW; decide) (by unfold smallW; decide) _ _ _ true true true) jj) ?_
 refine C Z Z (fun jj => S Z K jj)<|c_nil<|h_seq<|h_draw _ (List.nil_sublist _) [(0, .val), (1, .flo), (2, .flo), (3, .flo), (4, .flo), (5, .flo), (6, .flo), (7, .flo), (8, .flo), (9, .flo)] mixed (by kernel_rfl)<|c_val Z Z (fun _ _ _ _ jj => O 8 Z Z Z Z K jj)<|C Z Z (fun jj => o_call1 Z Z EntC.out K (block1_spec _ _ _) jj)<|C Z Z (fun jj => o_call1 Z Z EntC.out K (block1_spec _ _ _) jj)<|C Z Z (fun jj => o_call1 Z Z EntC.out K (block1_spec _ _ _) jj)<|C Z Z (fun jj => o_buildSlicep Z (by rfl) (by rfl) (by rfl) (by rfl) K jj) ?_
 refine C Z Z (fun jj => o_buildSlicep Z (by rfl) (by rfl) (by rfl) (by rfl) K jj) ?_
 refine C Z Z (fun jj => o_makeSlicep (n := 8) rfl K jj)<|C Z Z (fun jj => o_build Z Z K jj)<|C Z Z (fun jj => o_call1 Z Z EntC.out K (same42_spec exW2 exW2 (by unfold smallW; decide) (by unfold smallW; decide) _ _ _ true true true) jj) ?_
 refine C Z Z (fun jj => S Z K jj)<|c_nil<|h_seq<|H<|F Z Z K K<|O 4 Z Z Z Z K<|o_buildSlicep Z (by rfl) (by rfl) (by rfl) (by rfl) K ?_
 refine o_call1 Z Z EntC.out K (ints_spec exW3.lev [0, 0, 2, 1, 0, 0, 0, 0] K K _ _)<|S Z K<|o_nil<|h_seq<|H<|G Z K<|G Z K<|W Z Z (by decide +kernel) K ?_
 refine G Z K<|o_pickt Z (by decide +kernel) rfl K ?_
 refine G Z K<|W Z Z (by decide +kernel) K ?_
 refine G Z K<|o_pickt Z (by decide +kernel) rfl K ?_
 refine G Z K<|W Z Z (by decide +kernel) K ?_
 refine o_call1 Z Z EntC.out K (succeeds_spec _ _ _)<|o_pickt Z (by decide +kernel) rfl K ?_
 refine G Z K<|W Z Z (by decide +kernel) K ?_
 refine o_call1 Z Z EntC.out K (succeeds_spec _ _ _)<|o_pickt Z (by decide +kernel) rfl K ?_
 refine G Z K<|W Z Z (by decide +kernel) K ?_
 refine o_call1 Z Z EntC.out K (succeeds_spec _ _ _)<|o_pickt Z (by decide +kernel) rfl K ?_
 refine G Z K<|W Z Z (by decide +kernel) K ?_
 refine o_call1 Z Z EntC.out K (succeeds_spec _ _ _)<|o_pickt Z (by decide +kernel) rfl K ?_
 refine G Z K<|W Z Z (by decide +kernel) K ?_
 refine G Z K<|W Z Z (by decide +kernel) K ?_
 refine o_idxv Z Z (by omega) rfl rfl K<|W Z Z (by decide +kernel) K ?_
 refine o_loadv Z Z K<|W Z Z (by decide +kernel) K ?_
 refine o_build Z Z K<|W Z Z (by decide +kernel) K ?_
 refine o_eqS Z Z Z Z K<|o_pickt Z (by decide +kernel) rfl K ?_
 refine G Z K<|W Z Z K K<|o_call1 Z Z EntC.out K example_spec<|W Z Z K K<|o_call1 Z Z EntC.out K (mvalid_spec exW true true true)<|o_pickt Z K rfl K<|G Z K<|W Z Z (by decide +kernel) K ?_
 refine o_build Z Z K<|W Z Z (by decide +kernel) K ?_
 refine o_call1 Z Z EntC.out K (mvalid_spec wd0 true true true)<|W Z Z (by decide +kernel) K ?_
 refine o_not Z K<|o_pickt Z (by decide +kernel) rfl K ?_
 exact S Z K<|o_nil<|h_ret<|ret1' Z (B_eq (by decide +kernel))

end Go.Proofs.YtnoicbajhlpndaaGreat
/- The walk of the law MergeOrder; what it leaves to show of worlds and events. -/
namespace Go.Proofs.YtnoicbajhlpndaaGreat
open Go Go.RowKit Go.Shelf Hp
set_option maxRecDepth 10000
set_option maxHeartbeats 1000000
set_option linter.unusedVariables false
set_option linter.unusedSimpArgs false
attribute [local irreducible] WP WPs FnX IterX YdX RetP PanP Ch Back Join
theorem stepM_small (w : Wd) (e : Ev) : smallW (stepM w e).1 := by
  unfold stepM
  split
  · split
    · rename_i w' h
      have hv := (valid_iff w').1 (stepW_valid h)
      exact ⟨by have := valid_len hv.blk; dsimp only; omega, by have := hv.lb; dsimp only; omega, by have := hv.ll; dsimp only; omega⟩
    · simp [smallW, wd0]
  · simp [smallW, wd0]
end Go.Proofs.YtnoicbajhlpndaaGreat
