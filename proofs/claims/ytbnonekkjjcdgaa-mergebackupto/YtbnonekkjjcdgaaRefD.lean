/- The walk of the reference's One: some event. -/
import Derived.Test.YtbnonekkjjcdgaaRefC
namespace Go.Proofs.Ytbnonekkjjcdgaa
open Go Go.RowKit Go.Shelf Hp
set_option maxRecDepth 10000
set_option maxHeartbeats 1000000
set_option linter.unusedVariables false
set_option linter.unusedSimpArgs false
attribute [local irreducible] WP WPs FnX IterX YdX RetP PanP Ch Back Join
/-- What is known of a drawn event. -/
structure GoodE (at_ : Int) (e : Ev) : Prop where
  k1 : 1 ≤ e.kind
  k4 : e.kind ≤ 4
  t0 : at_ ≤ e.t
  t4 : e.t ≤ at_ + 4
  a0 : 0 ≤ e.a
  a7 : e.a ≤ 7
  b0 : 0 ≤ e.b
  b7 : e.b ≤ 7
  c0 : 0 ≤ e.c
  c7 : e.c ≤ 7
theorem m8 {a : Int} (h : 0 ≤ a) : 0 ≤ (a + 1).tmod 8 ∧ (a + 1).tmod 8 ≤ 7 := by
  have h1 := Int.tmod_nonneg 8 (show 0 ≤ a + 1 by omega)
  have h2 := Int.tmod_lt_of_pos (a + 1) (b := 8) (by omega)
  omega
structure OnI (at_ : Int) where
  i : Nat
  e : Ev
  hi : i ≤ 8
  hg : GoodE at_ e
theorem pick4 {c : Int} : 0 ≤ pickM c 4 ∧ pickM c 4 ≤ 3 := by have := pickM_range (c := c) (n := 4) (by omega); omega
theorem pick5 {c : Int} : 0 ≤ pickM c 5 ∧ pickM c 5 ≤ 4 := by have := pickM_range (c := c) (n := 5) (by omega); omega
theorem pick401 {c : Int} : 0 ≤ pickM c 401 ∧ pickM c 401 ≤ 400 := by have := pickM_range (c := c) (n := 401) (by omega); omega

theorem one42_spec (w : Wd) (f1 f2 f3 : Bool) (at_ : Int) (h0 : 0 ≤ at_) (h9 : at_ ≤ 1000000000) (y0 y1 y2 y3 y4 y5 y6 : Int) (hx0 : in64 y0) (hx1 : in64 y1) (hx2 : in64 y2) (hx3 : in64 y3) (hx4 : in64 y4) (hx5 : in64 y5) (hx6 : in64 y6) : Fc Try.prog 7 [encW w f1 f2 f3, I at_, .agg [I y0, I y1, I y2, I y3, I y4, I y5, I y6]] [] (fun r h' => (∃ e : Ev, r = encE e ∧ GoodE at_ e) ∧ h' = []) := by
  refine fnE_intro (N := 140) Try.func7 rfl rfl rfl ?_
  intro X
  refine h_seq ?_
  refine h_region ?_
  refine o_box rfl rfl (by decide) fun x1 => ?_
  refine o_box rfl rfl (by decide) fun x2 => ?_
  refine o_alloc (by decide) fun x3 => ?_
  refine o_nil ?_
  refine h_seq ?_
  refine h_draw _ (.cons_cons _ (.cons_cons _ (.cons_cons _ (List.nil_sublist _)))) [(0, .flo), (1, .val), (2, .flo), (3, .flo), (4, .flo), (5, .flo), (6, .val), (7, .flo), (8, .flo), (9, .flo), (10, .val), (11, .flo), (12, .flo), (13, .new), (14, .sto)] mixed (by kernel_rfl) ?_
  refine c_flo rfl rfl (fun Xq rq Qq dq kq => o_idxa rfl rfl (by decide) (by decide) (by decide) kq) ?_
  refine c_val rfl rfl (fun Xq rq Qq dq kq => o_load 1 rfl rfl rfl rfl (by decide) kq) ?_
  refine c_flo rfl rfl (fun Xq rq Qq dq kq => o_call1 rfl rfl EntC.out (by decide) (pick42_spec _ _ (by assumption) (by decide)) kq) ?_
  refine c_flo rfl rfl (fun Xq rq Qq dq kq => o_add rfl rfl (by have := pick4 (c := y0); unfold in64; (try dsimp only); omega) (by decide) kq) ?_
  refine c_flo rfl rfl (fun Xq rq Qq dq kq => o_move rfl (by decide) kq) ?_
  refine c_flo rfl rfl (fun Xq rq Qq dq kq => o_idxa rfl rfl (by decide) (by decide) (by decide) kq) ?_
  refine c_val rfl rfl (fun Xq rq Qq dq kq => o_load 1 rfl rfl rfl rfl (by decide) kq) ?_
  refine c_flo rfl rfl (fun Xq rq Qq dq kq => o_call1 rfl rfl EntC.out (by decide) (pick42_spec _ _ (by assumption) (by decide)) kq) ?_
  refine c_flo rfl rfl (fun Xq rq Qq dq kq => o_add rfl rfl (by have := pick5 (c := y1); unfold in64; (try dsimp only); omega) (by decide) kq) ?_
  refine c_flo rfl rfl (fun Xq rq Qq dq kq => o_idxa rfl rfl (by decide) (by decide) (by decide) kq) ?_
  refine c_val rfl rfl (fun Xq rq Qq dq kq => o_load 1 rfl rfl rfl rfl (by decide) kq) ?_
  refine c_flo rfl rfl (fun Xq rq Qq dq kq => o_call1 rfl rfl EntC.out (by decide) (pick42_spec _ _ (by assumption) (by decide)) kq) ?_
  refine c_flo rfl rfl (fun Xq rq Qq dq kq => o_build rfl rfl (by decide) kq) ?_
  refine c_new rfl rfl (fun Xq rq Qq dq kq => o_alloc (by decide) kq) fun x4 => ?_
  refine c_sto (.cons _ (.cons_cons _ (.cons_cons _ (.cons_cons _ (List.nil_sublist _))))) rfl rfl (fun Xq rq Qq dq kq => o_store 0 rfl rfl rfl rfl rfl rfl kq) ?_
  refine c_nil ?_
  refine h_seqK (ι := {e : Ev // GoodE at_ e}) (fun i => [(3, .ptr x1 0), (5, .ptr x2 0), (6, .ptr x3 0), (7, .ptr x4 0)]) (fun i => [(x4, .box 36 [I i.1.kind, I i.1.t, I i.1.a, I i.1.b, I i.1.c, I i.1.f, I i.1.to, I i.1.m]), (x3, .box 36 [I 0, I 0, I 0, I 0, I 0, I 0, I 0, I 0]), (x2, .box 24 [I y0, I y1, I y2, I y3, I y4, I y5, I y6]), (x1, .box 29 (cellsW w f1 f2 f3))]) ?_ ?_
  ·
    refine h_seq ?_
    refine h_region ?_
    refine o_assign rfl (by decide) ?_
    refine o_nil ?_
    refine h_block ?_
    refine h_famS (ι := OnI at_) (fun i => [(3, .ptr x1 0), (5, .ptr x2 0), (6, .ptr x3 0), (7, .ptr x4 0), (8, I (i.i : Nat))]) (fun i => (x4, .box 36 [I i.e.kind, I i.e.t, I i.e.a, I i.e.b, I i.e.c, I i.e.f, I i.e.to, I i.e.m]) :: (x3, .box 36 [I 0, I 0, I 0, I 0, I 0, I 0, I 0, I 0]) :: (x2, .box 24 [I y0, I y1, I y2, I y3, I y4, I y5, I y6]) :: (x1, .box 29 (cellsW w f1 f2 f3)) :: []) (fun i => 8 - i.i) ⟨0, ⟨1 + pickM y0 4, at_ + pickM y1 5, pickM y2 8, 0, 0, 0, 0, 0⟩, by omega, ⟨by have := pick4 (c := y0); dsimp only; omega, by have := pick4 (c := y0); dsimp only; omega, by have := pick5 (c := y1); dsimp only; omega, by have := pick5 (c := y1); dsimp only; omega, pick8.1, pick8.2, by simp, by simp, by simp, by simp⟩⟩ (.cons_cons _ (.cons_cons _ (.cons_cons _ (.cons_cons _ (.refl _))))) (subT.cons rfl (subT.cons rfl (subT.cons rfl (subT.cons rfl (subT.cons rfl subT.nil))))) ?_
    rintro ⟨i, e, hi, hg⟩
    dsimp only
    obtain ⟨gk1, gk4, gt0, gt4, ga0, ga7, gb0, gb7, gc0, gc7⟩ := id hg
    by_cases hlt : i < 8
    ·
      refine h_seq ?_
      refine h_seq ?_
      refine h_region ?_
      refine o_move rfl (by decide) ?_
      refine o_cmp rfl rfl rfl (by decide) ?_
      refine o_move rfl (by decide) ?_
      refine o_guardy rfl rfl (by simp; omega) (by decide) ?_
      refine o_faddr rfl rfl (by decide) (by decide) ?_
      refine o_guardy rfl rfl (by simp; omega) (by decide) ?_
      refine o_load 3 rfl rfl rfl rfl (by decide) ?_
      refine o_guardy rfl rfl (by simp; omega) (by decide) ?_
      refine o_faddr rfl rfl (by decide) (by decide) ?_
      refine o_guardy rfl rfl (by simp; omega) (by decide) ?_
      refine o_load 0 rfl rfl rfl rfl (by decide) ?_
      refine o_guardy rfl rfl (by simp; omega) (by decide) ?_
      refine o_call1 rfl rfl EntC.out (by decide) (bit42_spec _ _ (by omega) (by omega)) ?_
      refine o_guardy rfl rfl (by simp; omega) (by decide) ?_
      refine o_not rfl (by decide) ?_
      refine o_pickt rfl (by simp; omega) rfl (by decide) ?_
      refine o_nil ?_
      refine h_cond rfl (fun c7 => ?_) (fun c7 => ?_)
      ·
        refine h_skip ?_
        refine h_seq ?_
        refine h_block ?_
        refine h_region ?_
        refine o_faddr rfl rfl (by decide) (by decide) ?_
        refine o_load 0 rfl rfl rfl rfl (by decide) ?_
        refine o_add rfl rfl (by unfold in64; (try dsimp only); omega) (by decide) ?_
        refine o_rem rfl rfl (by decide) (by decide) ?_
        refine o_faddr rfl rfl (by decide) (by decide) ?_
        refine o_store 0 rfl rfl rfl rfl rfl rfl ?_
        refine o_nil ?_
        refine h_region ?_
        refine o_move rfl (by decide) ?_
        refine o_add rfl rfl (by unfold in64; (try dsimp only); omega) (by decide) ?_
        refine o_assign rfl (by decide) ?_
        refine o_nil ?_
        refine back rfl ⟨i + 1, { e with a := (e.a + 1).tmod 8 }, hlt, ⟨gk1, gk4, gt0, gt4, (m8 ga0).1, (m8 ga0).2, gb0, gb7, gc0, gc7⟩⟩ (by dsimp only; omega) (.cons_cons _ (.cons_cons _ (.cons_cons _ (.cons_cons _ (.refl _))))) (subT.cons rfl (subT.cons rfl (subT.cons rfl (subT.cons rfl (subT.cons rfl subT.nil)))))
      ·
        refine h_exit ?_
        exact join rfl ⟨_, hg⟩ (.refl _) (.cons_cons _ (.cons_cons _ (.cons_cons _ (.cons_cons _ (List.nil_sublist _))))) (subT.cons rfl (subT.cons rfl (subT.cons rfl (subT.cons rfl subT.nil))))
    ·
      refine h_seq ?_
      refine h_seq ?_
      refine h_region ?_
      refine o_move rfl (by decide) ?_
      refine o_cmp rfl rfl rfl (by decide) ?_
      refine o_move rfl (by decide) ?_
      refine o_guardn rfl rfl (by simp <;> omega) (by decide) ?_
      refine o_guardn rfl rfl (by simp <;> omega) (by decide) ?_
      refine o_guardn rfl rfl (by simp <;> omega) (by decide) ?_
      refine o_guardn rfl rfl (by simp <;> omega) (by decide) ?_
      refine o_guardn rfl rfl (by simp <;> omega) (by decide) ?_
      refine o_guardn rfl rfl (by simp <;> omega) (by decide) ?_
      refine o_pickf rfl (by simp <;> omega) rfl (by decide) ?_
      refine o_nil ?_
      refine h_condf rfl rfl ?_
      refine h_exit ?_
      exact join rfl ⟨_, hg⟩ (.refl _) (.cons_cons _ (.cons_cons _ (.cons_cons _ (.cons_cons _ (List.nil_sublist _))))) (subT.cons rfl (subT.cons rfl (subT.cons rfl (subT.cons rfl subT.nil))))
  ·
    rintro ⟨e, hg⟩
    dsimp only
    refine h_seq ?_
    refine h_region ?_
    refine o_idxa rfl rfl (by decide) (by decide) (by decide) ?_
    refine o_load 2 rfl rfl rfl rfl (by decide) ?_
    refine o_call1 rfl rfl EntC.out (by decide) (pick42_spec _ _ (by assumption) (by decide)) ?_
    refine o_faddr rfl rfl (by decide) (by decide) ?_
    refine o_store 0 rfl rfl rfl rfl rfl rfl ?_
    refine o_nil ?_
    refine h_seq ?_
    refine h_region ?_
    refine o_idxa rfl rfl (by decide) (by decide) (by decide) ?_
    refine o_load 2 rfl rfl rfl rfl (by decide) ?_
    refine o_call1 rfl rfl EntC.out (by decide) (pick42_spec _ _ (by assumption) (by decide)) ?_
    refine o_faddr rfl rfl (by decide) (by decide) ?_
    refine o_store 0 rfl rfl rfl rfl rfl rfl ?_
    refine o_nil ?_
    refine h_seq ?_
    refine h_region ?_
    refine o_assign rfl (by decide) ?_
    refine o_nil ?_
    refine h_seq ?_
    refine h_seq ?_
    refine h_region ?_
    refine o_faddr rfl rfl (by decide) (by decide) ?_
    refine o_load 0 rfl rfl rfl rfl (by decide) ?_
    refine o_cmp rfl rfl rfl (by decide) ?_
    refine o_nil ?_
    refine h_cond rfl (fun c10 => ?_) (fun c10 => ?_)
    ·
      refine h_region ?_
      refine o_assign rfl (by decide) ?_
      refine o_nil ?_
      refine h_seq ?_
      refine h_region ?_
      refine o_faddr rfl rfl (by decide) (by decide) ?_
      refine o_load 3 rfl rfl rfl rfl (by decide) ?_
      refine o_assign rfl (by decide) ?_
      refine o_nil ?_
      refine h_seq ?_
      refine h_seq ?_
      refine h_region ?_
      refine o_move rfl (by decide) ?_
      refine o_cmp rfl rfl rfl (by decide) ?_
      refine o_nil ?_
      refine h_condt rfl (by decide) ?_
      refine h_region ?_
      refine o_faddr rfl rfl (by decide) (by decide) ?_
      refine o_load 3 rfl rfl rfl rfl (by decide) ?_
      refine o_assign rfl (by decide) ?_
      refine o_nil ?_
      refine h_seqK (ι := {e : Ev // GoodE at_ e}) (fun i => [(3, .ptr x1 0), (5, .ptr x2 0), (6, .ptr x3 0), (7, .ptr x4 0)]) (fun i => [(x4, .box 36 [I i.1.kind, I i.1.t, I i.1.a, I i.1.b, I i.1.c, I i.1.f, I i.1.to, I i.1.m]), (x3, .box 36 [I 0, I 0, I 0, I 0, I 0, I 0, I 0, I 0]), (x2, .box 24 [I y0, I y1, I y2, I y3, I y4, I y5, I y6]), (x1, .box 29 (cellsW w f1 f2 f3))]) ?_ ?_
      ·
        refine h_seq ?_
        refine h_region ?_
        refine o_assign rfl (by decide) ?_
        refine o_nil ?_
        refine h_block ?_
        refine h_famS (ι := OnI at_) (fun i => [(3, .ptr x1 0), (5, .ptr x2 0), (6, .ptr x3 0), (7, .ptr x4 0), (9, I 0), (10, I w.ever), (11, I (i.i : Nat))]) (fun i => (x4, .box 36 [I i.e.kind, I i.e.t, I i.e.a, I i.e.b, I i.e.c, I i.e.f, I i.e.to, I i.e.m]) :: (x3, .box 36 [I 0, I 0, I 0, I 0, I 0, I 0, I 0, I 0]) :: (x2, .box 24 [I y0, I y1, I y2, I y3, I y4, I y5, I y6]) :: (x1, .box 29 (cellsW w f1 f2 f3)) :: []) (fun i => 8 - i.i) ⟨0, { e with b := pickM y3 8, c := pickM y4 8 }, by omega, ⟨hg.k1, hg.k4, hg.t0, hg.t4, hg.a0, hg.a7, pick8.1, pick8.2, pick8.1, pick8.2⟩⟩ (.cons_cons _ (.cons_cons _ (.cons_cons _ (.cons_cons _ (.refl _))))) (subT.cons rfl (subT.cons rfl (subT.cons rfl (subT.cons rfl (subT.cons rfl (subT.cons rfl (subT.cons rfl subT.nil))))))) ?_
        rintro ⟨i, e, hi, hg⟩
        dsimp only
        obtain ⟨gk1, gk4, gt0, gt4, ga0, ga7, gb0, gb7, gc0, gc7⟩ := id hg
        by_cases hlt : i < 8
        ·
          refine h_seq ?_
          refine h_seq ?_
          refine h_region ?_
          refine o_move rfl (by decide) ?_
          refine o_cmp rfl rfl rfl (by decide) ?_
          refine o_move rfl (by decide) ?_
          refine o_guardy rfl rfl (by simp; omega) (by decide) ?_
          refine o_faddr rfl rfl (by decide) (by decide) ?_
          refine o_guardy rfl rfl (by simp; omega) (by decide) ?_
          refine o_load 0 rfl rfl rfl rfl (by decide) ?_
          refine o_guardy rfl rfl (by simp; omega) (by decide) ?_
          refine o_faddr rfl rfl (by decide) (by decide) ?_
          refine o_guardy rfl rfl (by simp; omega) (by decide) ?_
          refine o_load 0 rfl rfl rfl rfl (by decide) ?_
          refine o_guardy rfl rfl (by simp; omega) (by decide) ?_
          refine o_cmp rfl rfl rfl (by decide) ?_
          refine o_guardy rfl rfl (by simp; omega) (by decide) ?_
          refine o_move rfl (by decide) ?_
          refine o_guard rfl rfl (by decide) (fun g14 => ?_) (fun g14 => ?_)
          ·
            have g14 : _ = false := g14
            refine o_move rfl (by decide) ?_
            refine o_guardy rfl rfl g14 (by decide) ?_
            refine o_faddr rfl rfl (by decide) (by decide) ?_
            refine o_guardy rfl rfl g14 (by decide) ?_
            refine o_load 0 rfl rfl rfl rfl (by decide) ?_
            refine o_guardy rfl rfl g14 (by decide) ?_
            refine o_call1 rfl rfl EntC.out (by decide) (bit42_spec _ _ (by omega) (by omega)) ?_
            refine o_guardy rfl rfl g14 (by decide) ?_
            refine o_move rfl (by decide) ?_
            refine o_guardy rfl rfl g14 (by decide) ?_
            refine o_cmp rfl rfl rfl (by decide) ?_
            refine o_guardy rfl rfl g14 (by decide) ?_
            refine o_nebb rfl rfl (by decide) ?_
            refine o_guardy rfl rfl (by simp; omega) (by decide) ?_
            refine o_pickf rfl g14 rfl (by decide) ?_
            refine o_pickt rfl (by simp; omega) rfl (by decide) ?_
            refine o_nil ?_
            refine h_cond rfl (fun c18 => ?_) (fun c18 => ?_)
            ·
              refine h_skip ?_
              refine h_seq ?_
              refine h_block ?_
              refine h_region ?_
              refine o_faddr rfl rfl (by decide) (by decide) ?_
              refine o_load 0 rfl rfl rfl rfl (by decide) ?_
              refine o_add rfl rfl (by unfold in64; (try dsimp only); omega) (by decide) ?_
              refine o_rem rfl rfl (by decide) (by decide) ?_
              refine o_faddr rfl rfl (by decide) (by decide) ?_
              refine o_store 0 rfl rfl rfl rfl rfl rfl ?_
              refine o_nil ?_
              refine h_region ?_
              refine o_move rfl (by decide) ?_
              refine o_add rfl rfl (by unfold in64; (try dsimp only); omega) (by decide) ?_
              refine o_assign rfl (by decide) ?_
              refine o_nil ?_
              refine back rfl ⟨i + 1, { e with b := (e.b + 1).tmod 8 }, hlt, ⟨gk1, gk4, gt0, gt4, ga0, ga7, (m8 gb0).1, (m8 gb0).2, gc0, gc7⟩⟩ (by dsimp only; omega) (.cons_cons _ (.cons_cons _ (.cons_cons _ (.cons_cons _ (.refl _))))) (subT.cons rfl (subT.cons rfl (subT.cons rfl (subT.cons rfl (subT.cons rfl (subT.cons rfl (subT.cons rfl subT.nil)))))))
            ·
              refine h_exit ?_
              exact join rfl ⟨_, hg⟩ (.refl _) (.cons_cons _ (.cons_cons _ (.cons_cons _ (.cons_cons _ (List.nil_sublist _))))) (subT.cons rfl (subT.cons rfl (subT.cons rfl (subT.cons rfl subT.nil))))
          ·
            have g14 : _ = true := g14
            refine o_guardn rfl rfl g14 (by decide) ?_
            refine o_guardn rfl rfl g14 (by decide) ?_
            refine o_guardn rfl rfl g14 (by decide) ?_
            refine o_guardn rfl rfl g14 (by decide) ?_
            refine o_guardn rfl rfl g14 (by decide) ?_
            refine o_guardn rfl rfl g14 (by decide) ?_
            refine o_guardy rfl rfl (by simp; omega) (by decide) ?_
            refine o_pickt rfl g14 rfl (by decide) ?_
            refine o_pickt rfl (by simp; omega) rfl (by decide) ?_
            refine o_nil ?_
            refine h_condt rfl rfl ?_
            refine h_skip ?_
            refine h_seq ?_
            refine h_block ?_
            refine h_region ?_
            refine o_faddr rfl rfl (by decide) (by decide) ?_
            refine o_load 0 rfl rfl rfl rfl (by decide) ?_
            refine o_add rfl rfl (by unfold in64; (try dsimp only); omega) (by decide) ?_
            refine o_rem rfl rfl (by decide) (by decide) ?_
            refine o_faddr rfl rfl (by decide) (by decide) ?_
            refine o_store 0 rfl rfl rfl rfl rfl rfl ?_
            refine o_nil ?_
            refine h_region ?_
            refine o_move rfl (by decide) ?_
            refine o_add rfl rfl (by unfold in64; (try dsimp only); omega) (by decide) ?_
            refine o_assign rfl (by decide) ?_
            refine o_nil ?_
            refine back rfl ⟨i + 1, { e with b := (e.b + 1).tmod 8 }, hlt, ⟨gk1, gk4, gt0, gt4, ga0, ga7, (m8 gb0).1, (m8 gb0).2, gc0, gc7⟩⟩ (by dsimp only; omega) (.cons_cons _ (.cons_cons _ (.cons_cons _ (.cons_cons _ (.refl _))))) (subT.cons rfl (subT.cons rfl (subT.cons rfl (subT.cons rfl (subT.cons rfl (subT.cons rfl (subT.cons rfl subT.nil)))))))
        ·
          refine h_seq ?_
          refine h_seq ?_
          refine h_region ?_
          refine o_move rfl (by decide) ?_
          refine o_cmp rfl rfl rfl (by decide) ?_
          refine o_move rfl (by decide) ?_
          refine o_guardn rfl rfl (by simp <;> omega) (by decide) ?_
          refine o_guardn rfl rfl (by simp <;> omega) (by decide) ?_
          refine o_guardn rfl rfl (by simp <;> omega) (by decide) ?_
          refine o_guardn rfl rfl (by simp <;> omega) (by decide) ?_
          refine o_guardn rfl rfl (by simp <;> omega) (by decide) ?_
          refine o_guardn rfl rfl (by simp <;> omega) (by decide) ?_
          refine o_guardx rfl rfl (by decide) ?_
          refine o_guardx rfl rfl (by decide) ?_
          refine o_guardx rfl rfl (by decide) ?_
          refine o_guardx rfl rfl (by decide) ?_
          refine o_guardx rfl rfl (by decide) ?_
          refine o_guardx rfl rfl (by decide) ?_
          refine o_guardx rfl rfl (by decide) ?_
          refine o_guardn rfl rfl (by simp <;> omega) (by decide) ?_
          refine o_pickf rfl (by simp <;> omega) rfl (by decide) ?_
          refine o_nil ?_
          refine h_condf rfl rfl ?_
          refine h_exit ?_
          exact join rfl ⟨_, hg⟩ (.refl _) (.cons_cons _ (.cons_cons _ (.cons_cons _ (.cons_cons _ (List.nil_sublist _))))) (subT.cons rfl (subT.cons rfl (subT.cons rfl (subT.cons rfl subT.nil))))
      ·
        rintro ⟨e, hg⟩
        dsimp only
        refine h_seqK (ι := {e : Ev // GoodE at_ e}) (fun i => [(3, .ptr x1 0), (5, .ptr x2 0), (6, .ptr x3 0), (7, .ptr x4 0)]) (fun i => [(x4, .box 36 [I i.1.kind, I i.1.t, I i.1.a, I i.1.b, I i.1.c, I i.1.f, I i.1.to, I i.1.m]), (x3, .box 36 [I 0, I 0, I 0, I 0, I 0, I 0, I 0, I 0]), (x2, .box 24 [I y0, I y1, I y2, I y3, I y4, I y5, I y6]), (x1, .box 29 (cellsW w f1 f2 f3))]) ?_ ?_
        ·
          refine h_seq ?_
          refine h_region ?_
          refine o_assign rfl (by decide) ?_
          refine o_nil ?_
          refine h_block ?_
          refine h_famS (ι := OnI at_) (fun i => [(3, .ptr x1 0), (5, .ptr x2 0), (6, .ptr x3 0), (7, .ptr x4 0), (12, I (i.i : Nat))]) (fun i => (x4, .box 36 [I i.e.kind, I i.e.t, I i.e.a, I i.e.b, I i.e.c, I i.e.f, I i.e.to, I i.e.m]) :: (x3, .box 36 [I 0, I 0, I 0, I 0, I 0, I 0, I 0, I 0]) :: (x2, .box 24 [I y0, I y1, I y2, I y3, I y4, I y5, I y6]) :: (x1, .box 29 (cellsW w f1 f2 f3)) :: []) (fun i => 8 - i.i) ⟨0, e, by omega, hg⟩ (.cons_cons _ (.cons_cons _ (.cons_cons _ (.cons_cons _ (.refl _))))) (subT.cons rfl (subT.cons rfl (subT.cons rfl (subT.cons rfl (subT.cons rfl subT.nil))))) ?_
          rintro ⟨i, e, hi, hg⟩
          dsimp only
          obtain ⟨gk1, gk4, gt0, gt4, ga0, ga7, gb0, gb7, gc0, gc7⟩ := id hg
          by_cases hlt : i < 8
          ·
            refine h_seq ?_
            refine h_seq ?_
            refine h_region ?_
            refine o_move rfl (by decide) ?_
            refine o_cmp rfl rfl rfl (by decide) ?_
            refine o_move rfl (by decide) ?_
            refine o_guardy rfl rfl (by simp; omega) (by decide) ?_
            refine o_faddr rfl rfl (by decide) (by decide) ?_
            refine o_guardy rfl rfl (by simp; omega) (by decide) ?_
            refine o_load 0 rfl rfl rfl rfl (by decide) ?_
            refine o_guardy rfl rfl (by simp; omega) (by decide) ?_
            refine o_faddr rfl rfl (by decide) (by decide) ?_
            refine o_guardy rfl rfl (by simp; omega) (by decide) ?_
            refine o_load 0 rfl rfl rfl rfl (by decide) ?_
            refine o_guardy rfl rfl (by simp; omega) (by decide) ?_
            refine o_cmp rfl rfl rfl (by decide) ?_
            refine o_guardy rfl rfl (by simp; omega) (by decide) ?_
            refine o_move rfl (by decide) ?_
            refine o_guard rfl rfl (by decide) (fun g22 => ?_) (fun g22 => ?_)
            ·
              have g22 : _ = false := g22
              refine o_faddr rfl rfl (by decide) (by decide) ?_
              refine o_guardy rfl rfl g22 (by decide) ?_
              refine o_load 3 rfl rfl rfl rfl (by decide) ?_
              refine o_guardy rfl rfl g22 (by decide) ?_
              refine o_faddr rfl rfl (by decide) (by decide) ?_
              refine o_guardy rfl rfl g22 (by decide) ?_
              refine o_load 0 rfl rfl rfl rfl (by decide) ?_
              refine o_guardy rfl rfl g22 (by decide) ?_
              refine o_call1 rfl rfl EntC.out (by decide) (bit42_spec _ _ (by omega) (by omega)) ?_
              refine o_guardy rfl rfl g22 (by decide) ?_
              refine o_not rfl (by decide) ?_
              refine o_guardy rfl rfl (by simp; omega) (by decide) ?_
              refine o_pickf rfl g22 rfl (by decide) ?_
              refine o_pickt rfl (by simp; omega) rfl (by decide) ?_
              refine o_nil ?_
              refine h_cond rfl (fun c24 => ?_) (fun c24 => ?_)
              ·
                refine h_skip ?_
                refine h_seq ?_
                refine h_block ?_
                refine h_region ?_
                refine o_faddr rfl rfl (by decide) (by decide) ?_
                refine o_load 0 rfl rfl rfl rfl (by decide) ?_
                refine o_add rfl rfl (by unfold in64; (try dsimp only); omega) (by decide) ?_
                refine o_rem rfl rfl (by decide) (by decide) ?_
                refine o_faddr rfl rfl (by decide) (by decide) ?_
                refine o_store 0 rfl rfl rfl rfl rfl rfl ?_
                refine o_nil ?_
                refine h_region ?_
                refine o_move rfl (by decide) ?_
                refine o_add rfl rfl (by unfold in64; (try dsimp only); omega) (by decide) ?_
                refine o_assign rfl (by decide) ?_
                refine o_nil ?_
                refine back rfl ⟨i + 1, { e with c := (e.c + 1).tmod 8 }, hlt, ⟨gk1, gk4, gt0, gt4, ga0, ga7, gb0, gb7, (m8 gc0).1, (m8 gc0).2⟩⟩ (by dsimp only; omega) (.cons_cons _ (.cons_cons _ (.cons_cons _ (.cons_cons _ (.refl _))))) (subT.cons rfl (subT.cons rfl (subT.cons rfl (subT.cons rfl (subT.cons rfl subT.nil)))))
              ·
                refine h_exit ?_
                exact join rfl ⟨_, hg⟩ (.refl _) (.cons_cons _ (.cons_cons _ (.cons_cons _ (.cons_cons _ (List.nil_sublist _))))) (subT.cons rfl (subT.cons rfl (subT.cons rfl (subT.cons rfl subT.nil))))
            ·
              have g22 : _ = true := g22
              refine o_guardn rfl rfl g22 (by decide) ?_
              refine o_guardn rfl rfl g22 (by decide) ?_
              refine o_guardn rfl rfl g22 (by decide) ?_
              refine o_guardn rfl rfl g22 (by decide) ?_
              refine o_guardn rfl rfl g22 (by decide) ?_
              refine o_guardy rfl rfl (by simp; omega) (by decide) ?_
              refine o_pickt rfl g22 rfl (by decide) ?_
              refine o_pickt rfl (by simp; omega) rfl (by decide) ?_
              refine o_nil ?_
              refine h_condt rfl rfl ?_
              refine h_skip ?_
              refine h_seq ?_
              refine h_block ?_
              refine h_region ?_
              refine o_faddr rfl rfl (by decide) (by decide) ?_
              refine o_load 0 rfl rfl rfl rfl (by decide) ?_
              refine o_add rfl rfl (by unfold in64; (try dsimp only); omega) (by decide) ?_
              refine o_rem rfl rfl (by decide) (by decide) ?_
              refine o_faddr rfl rfl (by decide) (by decide) ?_
              refine o_store 0 rfl rfl rfl rfl rfl rfl ?_
              refine o_nil ?_
              refine h_region ?_
              refine o_move rfl (by decide) ?_
              refine o_add rfl rfl (by unfold in64; (try dsimp only); omega) (by decide) ?_
              refine o_assign rfl (by decide) ?_
              refine o_nil ?_
              refine back rfl ⟨i + 1, { e with c := (e.c + 1).tmod 8 }, hlt, ⟨gk1, gk4, gt0, gt4, ga0, ga7, gb0, gb7, (m8 gc0).1, (m8 gc0).2⟩⟩ (by dsimp only; omega) (.cons_cons _ (.cons_cons _ (.cons_cons _ (.cons_cons _ (.refl _))))) (subT.cons rfl (subT.cons rfl (subT.cons rfl (subT.cons rfl (subT.cons rfl subT.nil)))))
          ·
            refine h_seq ?_
            refine h_seq ?_
            refine h_region ?_
            refine o_move rfl (by decide) ?_
            refine o_cmp rfl rfl rfl (by decide) ?_
            refine o_move rfl (by decide) ?_
            refine o_guardn rfl rfl (by simp <;> omega) (by decide) ?_
            refine o_guardn rfl rfl (by simp <;> omega) (by decide) ?_
            refine o_guardn rfl rfl (by simp <;> omega) (by decide) ?_
            refine o_guardn rfl rfl (by simp <;> omega) (by decide) ?_
            refine o_guardn rfl rfl (by simp <;> omega) (by decide) ?_
            refine o_guardn rfl rfl (by simp <;> omega) (by decide) ?_
            refine o_guardx rfl rfl (by decide) ?_
            refine o_guardx rfl rfl (by decide) ?_
            refine o_guardx rfl rfl (by decide) ?_
            refine o_guardx rfl rfl (by decide) ?_
            refine o_guardx rfl rfl (by decide) ?_
            refine o_guardx rfl rfl (by decide) ?_
            refine o_guardn rfl rfl (by simp <;> omega) (by decide) ?_
            refine o_pickf rfl (by simp <;> omega) rfl (by decide) ?_
            refine o_nil ?_
            refine h_condf rfl rfl ?_
            refine h_exit ?_
            exact join rfl ⟨_, hg⟩ (.refl _) (.cons_cons _ (.cons_cons _ (.cons_cons _ (.cons_cons _ (List.nil_sublist _))))) (subT.cons rfl (subT.cons rfl (subT.cons rfl (subT.cons rfl subT.nil))))
        ·
          rintro ⟨e, hg⟩
          dsimp only
          refine h_seq ?_
          refine h_region ?_
          refine o_idxa rfl rfl (by decide) (by decide) (by decide) ?_
          refine o_load 2 rfl rfl rfl rfl (by decide) ?_
          refine o_idxa rfl rfl (by decide) (by decide) (by decide) ?_
          refine o_load 2 rfl rfl rfl rfl (by decide) ?_
          refine o_call1 rfl rfl EntC.out (by decide) (piece_spec _ _ hx5 hx6) ?_
          refine o_faddr rfl rfl (by decide) (by decide) ?_
          refine o_store 0 rfl rfl rfl rfl rfl rfl ?_
          refine o_nil ?_
          refine h_seq ?_
          refine h_region ?_
          refine o_idxa rfl rfl (by decide) (by decide) (by decide) ?_
          refine o_load 2 rfl rfl rfl rfl (by decide) ?_
          refine o_call1 rfl rfl EntC.out (by decide) (pick42_spec _ _ (by assumption) (by decide)) ?_
          refine o_sub rfl rfl (by have := pick401 (c := y6); unfold in64; (try dsimp only); omega) (by decide) ?_
          refine o_faddr rfl rfl (by decide) (by decide) ?_
          refine o_store 0 rfl rfl rfl rfl rfl rfl ?_
          refine o_nil ?_
          refine h_seqK (ι := {e : Ev // GoodE at_ e}) (fun i => [(3, .ptr x1 0), (5, .ptr x2 0), (6, .ptr x3 0), (7, .ptr x4 0)]) (fun i => [(x4, .box 36 [I i.1.kind, I i.1.t, I i.1.a, I i.1.b, I i.1.c, I i.1.f, I i.1.to, I i.1.m]), (x3, .box 36 [I 0, I 0, I 0, I 0, I 0, I 0, I 0, I 0]), (x2, .box 24 [I y0, I y1, I y2, I y3, I y4, I y5, I y6]), (x1, .box 29 (cellsW w f1 f2 f3))]) ?_ ?_
          ·
            refine h_seq ?_
            refine h_region ?_
            refine o_faddr rfl rfl (by decide) (by decide) ?_
            refine o_load 0 rfl rfl rfl rfl (by decide) ?_
            refine o_cmp rfl rfl rfl (by decide) ?_
            refine o_nil ?_
            refine h_cond rfl (fun c27 => ?_) (fun c27 => ?_)
            ·
              refine h_region ?_
              refine o_faddr rfl rfl (by decide) (by decide) ?_
              refine o_store 0 rfl rfl rfl rfl rfl rfl ?_
              refine o_nil ?_
              exact join rfl ⟨⟨e.kind, e.t, e.a, e.b, 0, (pieceR y5 y6).1, (pieceR y5 y6).2, pickM y6 401 - 200⟩, ⟨hg.k1, hg.k4, hg.t0, hg.t4, hg.a0, hg.a7, (by first | exact hg.b0 | simp), (by first | exact hg.b7 | simp), (by first | exact hg.c0 | simp), (by first | exact hg.c7 | simp)⟩⟩ (.refl _) (.cons_cons _ (.cons_cons _ (.cons_cons _ (.cons_cons _ (List.nil_sublist _))))) (subT.cons rfl (subT.cons rfl (subT.cons rfl (subT.cons rfl subT.nil))))
            ·
              refine h_skip ?_
              exact join rfl ⟨⟨e.kind, e.t, e.a, e.b, e.c, (pieceR y5 y6).1, (pieceR y5 y6).2, pickM y6 401 - 200⟩, ⟨hg.k1, hg.k4, hg.t0, hg.t4, hg.a0, hg.a7, (by first | exact hg.b0 | simp), (by first | exact hg.b7 | simp), (by first | exact hg.c0 | simp), (by first | exact hg.c7 | simp)⟩⟩ (.refl _) (.cons_cons _ (.cons_cons _ (.cons_cons _ (.cons_cons _ (List.nil_sublist _))))) (subT.cons rfl (subT.cons rfl (subT.cons rfl (subT.cons rfl subT.nil))))
          ·
            rintro ⟨e, hg⟩
            dsimp only
            refine h_seqK (ι := {e : Ev // GoodE at_ e}) (fun i => [(3, .ptr x1 0), (5, .ptr x2 0), (6, .ptr x3 0), (7, .ptr x4 0)]) (fun i => [(x4, .box 36 [I i.1.kind, I i.1.t, I i.1.a, I i.1.b, I i.1.c, I i.1.f, I i.1.to, I i.1.m]), (x3, .box 36 [I 0, I 0, I 0, I 0, I 0, I 0, I 0, I 0]), (x2, .box 24 [I y0, I y1, I y2, I y3, I y4, I y5, I y6]), (x1, .box 29 (cellsW w f1 f2 f3))]) ?_ ?_
            ·
              refine h_seq ?_
              refine h_region ?_
              refine o_faddr rfl rfl (by decide) (by decide) ?_
              refine o_load 0 rfl rfl rfl rfl (by decide) ?_
              refine o_cmp rfl rfl rfl (by decide) ?_
              refine o_move rfl (by decide) ?_
              refine o_guard rfl rfl (by decide) (fun g29 => ?_) (fun g29 => ?_)
              ·
                have g29 : _ = false := g29
                refine o_faddr rfl rfl (by decide) (by decide) ?_
                refine o_guardy rfl rfl g29 (by decide) ?_
                refine o_load 0 rfl rfl rfl rfl (by decide) ?_
                refine o_guardy rfl rfl g29 (by decide) ?_
                refine o_cmp rfl rfl rfl (by decide) ?_
                refine o_pickf rfl g29 rfl (by decide) ?_
                refine o_nil ?_
                refine h_cond rfl (fun c31 => ?_) (fun c31 => ?_)
                ·
                  refine h_seq ?_
                  refine h_region ?_
                  refine o_build rfl rfl (by decide) ?_
                  refine o_faddr rfl rfl (by decide) (by decide) ?_
                  refine o_store 0 rfl rfl rfl rfl rfl rfl ?_
                  refine o_nil ?_
                  refine h_region ?_
                  refine o_faddr rfl rfl (by decide) (by decide) ?_
                  refine o_store 0 rfl rfl rfl rfl rfl rfl ?_
                  refine o_nil ?_
                  exact join rfl ⟨⟨e.kind, e.t, e.a, e.b, e.c, 0, 0, 0⟩, ⟨hg.k1, hg.k4, hg.t0, hg.t4, hg.a0, hg.a7, (by first | exact hg.b0 | simp), (by first | exact hg.b7 | simp), (by first | exact hg.c0 | simp), (by first | exact hg.c7 | simp)⟩⟩ (.refl _) (.cons_cons _ (.cons_cons _ (.cons_cons _ (.cons_cons _ (List.nil_sublist _))))) (subT.cons rfl (subT.cons rfl (subT.cons rfl (subT.cons rfl subT.nil))))
                ·
                  refine h_skip ?_
                  exact join rfl ⟨⟨e.kind, e.t, e.a, e.b, e.c, e.f, e.to, e.m⟩, ⟨hg.k1, hg.k4, hg.t0, hg.t4, hg.a0, hg.a7, (by first | exact hg.b0 | simp), (by first | exact hg.b7 | simp), (by first | exact hg.c0 | simp), (by first | exact hg.c7 | simp)⟩⟩ (.refl _) (.cons_cons _ (.cons_cons _ (.cons_cons _ (.cons_cons _ (List.nil_sublist _))))) (subT.cons rfl (subT.cons rfl (subT.cons rfl (subT.cons rfl subT.nil))))
              ·
                have g29 : _ = true := g29
                refine o_guardn rfl rfl g29 (by decide) ?_
                refine o_guardn rfl rfl g29 (by decide) ?_
                refine o_pickt rfl g29 rfl (by decide) ?_
                refine o_nil ?_
                refine h_condt rfl rfl ?_
                refine h_seq ?_
                refine h_region ?_
                refine o_build rfl rfl (by decide) ?_
                refine o_faddr rfl rfl (by decide) (by decide) ?_
                refine o_store 0 rfl rfl rfl rfl rfl rfl ?_
                refine o_nil ?_
                refine h_region ?_
                refine o_faddr rfl rfl (by decide) (by decide) ?_
                refine o_store 0 rfl rfl rfl rfl rfl rfl ?_
                refine o_nil ?_
                exact join rfl ⟨⟨e.kind, e.t, e.a, e.b, e.c, 0, 0, 0⟩, ⟨hg.k1, hg.k4, hg.t0, hg.t4, hg.a0, hg.a7, (by first | exact hg.b0 | simp), (by first | exact hg.b7 | simp), (by first | exact hg.c0 | simp), (by first | exact hg.c7 | simp)⟩⟩ (.refl _) (.cons_cons _ (.cons_cons _ (.cons_cons _ (.cons_cons _ (List.nil_sublist _))))) (subT.cons rfl (subT.cons rfl (subT.cons rfl (subT.cons rfl subT.nil))))
            ·
              rintro ⟨e, hg⟩
              dsimp only
              refine h_seqK (ι := {e : Ev // GoodE at_ e}) (fun i => [(3, .ptr x1 0), (5, .ptr x2 0), (6, .ptr x3 0), (7, .ptr x4 0)]) (fun i => [(x4, .box 36 [I i.1.kind, I i.1.t, I i.1.a, I i.1.b, I i.1.c, I i.1.f, I i.1.to, I i.1.m]), (x3, .box 36 [I 0, I 0, I 0, I 0, I 0, I 0, I 0, I 0]), (x2, .box 24 [I y0, I y1, I y2, I y3, I y4, I y5, I y6]), (x1, .box 29 (cellsW w f1 f2 f3))]) ?_ ?_
              ·
                refine h_seq ?_
                refine h_region ?_
                refine o_faddr rfl rfl (by decide) (by decide) ?_
                refine o_load 0 rfl rfl rfl rfl (by decide) ?_
                refine o_cmp rfl rfl rfl (by decide) ?_
                refine o_nil ?_
                refine h_cond rfl (fun c33 => ?_) (fun c33 => ?_)
                ·
                  refine h_region ?_
                  refine o_faddr rfl rfl (by decide) (by decide) ?_
                  refine o_store 0 rfl rfl rfl rfl rfl rfl ?_
                  refine o_nil ?_
                  exact join rfl ⟨⟨e.kind, e.t, e.a, 0, e.c, e.f, e.to, e.m⟩, ⟨hg.k1, hg.k4, hg.t0, hg.t4, hg.a0, hg.a7, (by first | exact hg.b0 | simp), (by first | exact hg.b7 | simp), (by first | exact hg.c0 | simp), (by first | exact hg.c7 | simp)⟩⟩ (.refl _) (.cons_cons _ (.cons_cons _ (.cons_cons _ (.cons_cons _ (List.nil_sublist _))))) (subT.cons rfl (subT.cons rfl (subT.cons rfl (subT.cons rfl subT.nil))))
                ·
                  refine h_skip ?_
                  exact join rfl ⟨⟨e.kind, e.t, e.a, e.b, e.c, e.f, e.to, e.m⟩, ⟨hg.k1, hg.k4, hg.t0, hg.t4, hg.a0, hg.a7, (by first | exact hg.b0 | simp), (by first | exact hg.b7 | simp), (by first | exact hg.c0 | simp), (by first | exact hg.c7 | simp)⟩⟩ (.refl _) (.cons_cons _ (.cons_cons _ (.cons_cons _ (.cons_cons _ (List.nil_sublist _))))) (subT.cons rfl (subT.cons rfl (subT.cons rfl (subT.cons rfl subT.nil))))
              ·
                rintro ⟨e, hg⟩
                dsimp only
                refine h_seq ?_
                refine h_region ?_
                refine o_load 0 rfl rfl rfl rfl (by decide) ?_
                refine o_store 1 rfl rfl rfl rfl rfl rfl ?_
                refine o_nil ?_
                refine h_ret ?_
                exact retG [] (.cons (resC 1 rfl rfl rfl) .nil) (List.nil_sublist _) ⟨_, rfl, ⟨e, rfl, hg⟩, rfl⟩
    ·
      refine h_skip ?_
      refine h_seq ?_
      refine h_region ?_
      refine o_faddr rfl rfl (by decide) (by decide) ?_
      refine o_load 3 rfl rfl rfl rfl (by decide) ?_
      refine o_assign rfl (by decide) ?_
      refine o_nil ?_
      refine h_seq ?_
      refine h_seq ?_
      refine h_region ?_
      refine o_move rfl (by decide) ?_
      refine o_cmp rfl rfl rfl (by decide) ?_
      refine o_nil ?_
      refine h_condf rfl (by decide) ?_
      refine h_skip ?_
      refine h_seqK (ι := {e : Ev // GoodE at_ e}) (fun i => [(3, .ptr x1 0), (5, .ptr x2 0), (6, .ptr x3 0), (7, .ptr x4 0)]) (fun i => [(x4, .box 36 [I i.1.kind, I i.1.t, I i.1.a, I i.1.b, I i.1.c, I i.1.f, I i.1.to, I i.1.m]), (x3, .box 36 [I 0, I 0, I 0, I 0, I 0, I 0, I 0, I 0]), (x2, .box 24 [I y0, I y1, I y2, I y3, I y4, I y5, I y6]), (x1, .box 29 (cellsW w f1 f2 f3))]) ?_ ?_
      ·
        refine h_seq ?_
        refine h_region ?_
        refine o_assign rfl (by decide) ?_
        refine o_nil ?_
        refine h_block ?_
        refine h_famS (ι := OnI at_) (fun i => [(3, .ptr x1 0), (5, .ptr x2 0), (6, .ptr x3 0), (7, .ptr x4 0), (9, I 1), (10, I w.alive), (11, I (i.i : Nat))]) (fun i => (x4, .box 36 [I i.e.kind, I i.e.t, I i.e.a, I i.e.b, I i.e.c, I i.e.f, I i.e.to, I i.e.m]) :: (x3, .box 36 [I 0, I 0, I 0, I 0, I 0, I 0, I 0, I 0]) :: (x2, .box 24 [I y0, I y1, I y2, I y3, I y4, I y5, I y6]) :: (x1, .box 29 (cellsW w f1 f2 f3)) :: []) (fun i => 8 - i.i) ⟨0, { e with b := pickM y3 8, c := pickM y4 8 }, by omega, ⟨hg.k1, hg.k4, hg.t0, hg.t4, hg.a0, hg.a7, pick8.1, pick8.2, pick8.1, pick8.2⟩⟩ (.cons_cons _ (.cons_cons _ (.cons_cons _ (.cons_cons _ (.refl _))))) (subT.cons rfl (subT.cons rfl (subT.cons rfl (subT.cons rfl (subT.cons rfl (subT.cons rfl (subT.cons rfl subT.nil))))))) ?_
        rintro ⟨i, e, hi, hg⟩
        dsimp only
        obtain ⟨gk1, gk4, gt0, gt4, ga0, ga7, gb0, gb7, gc0, gc7⟩ := id hg
        by_cases hlt : i < 8
        ·
          refine h_seq ?_
          refine h_seq ?_
          refine h_region ?_
          refine o_move rfl (by decide) ?_
          refine o_cmp rfl rfl rfl (by decide) ?_
          refine o_move rfl (by decide) ?_
          refine o_guardy rfl rfl (by simp; omega) (by decide) ?_
          refine o_faddr rfl rfl (by decide) (by decide) ?_
          refine o_guardy rfl rfl (by simp; omega) (by decide) ?_
          refine o_load 0 rfl rfl rfl rfl (by decide) ?_
          refine o_guardy rfl rfl (by simp; omega) (by decide) ?_
          refine o_faddr rfl rfl (by decide) (by decide) ?_
          refine o_guardy rfl rfl (by simp; omega) (by decide) ?_
          refine o_load 0 rfl rfl rfl rfl (by decide) ?_
          refine o_guardy rfl rfl (by simp; omega) (by decide) ?_
          refine o_cmp rfl rfl rfl (by decide) ?_
          refine o_guardy rfl rfl (by simp; omega) (by decide) ?_
          refine o_move rfl (by decide) ?_
          refine o_guard rfl rfl (by decide) (fun g37 => ?_) (fun g37 => ?_)
          ·
            have g37 : _ = false := g37
            refine o_move rfl (by decide) ?_
            refine o_guardy rfl rfl g37 (by decide) ?_
            refine o_faddr rfl rfl (by decide) (by decide) ?_
            refine o_guardy rfl rfl g37 (by decide) ?_
            refine o_load 0 rfl rfl rfl rfl (by decide) ?_
            refine o_guardy rfl rfl g37 (by decide) ?_
            refine o_call1 rfl rfl EntC.out (by decide) (bit42_spec _ _ (by omega) (by omega)) ?_
            refine o_guardy rfl rfl g37 (by decide) ?_
            refine o_move rfl (by decide) ?_
            refine o_guardy rfl rfl g37 (by decide) ?_
            refine o_cmp rfl rfl rfl (by decide) ?_
            refine o_guardy rfl rfl g37 (by decide) ?_
            refine o_nebb rfl rfl (by decide) ?_
            refine o_guardy rfl rfl (by simp; omega) (by decide) ?_
            refine o_pickf rfl g37 rfl (by decide) ?_
            refine o_pickt rfl (by simp; omega) rfl (by decide) ?_
            refine o_nil ?_
            refine h_cond rfl (fun c41 => ?_) (fun c41 => ?_)
            ·
              refine h_skip ?_
              refine h_seq ?_
              refine h_block ?_
              refine h_region ?_
              refine o_faddr rfl rfl (by decide) (by decide) ?_
              refine o_load 0 rfl rfl rfl rfl (by decide) ?_
              refine o_add rfl rfl (by unfold in64; (try dsimp only); omega) (by decide) ?_
              refine o_rem rfl rfl (by decide) (by decide) ?_
              refine o_faddr rfl rfl (by decide) (by decide) ?_
              refine o_store 0 rfl rfl rfl rfl rfl rfl ?_
              refine o_nil ?_
              refine h_region ?_
              refine o_move rfl (by decide) ?_
              refine o_add rfl rfl (by unfold in64; (try dsimp only); omega) (by decide) ?_
              refine o_assign rfl (by decide) ?_
              refine o_nil ?_
              refine back rfl ⟨i + 1, { e with b := (e.b + 1).tmod 8 }, hlt, ⟨gk1, gk4, gt0, gt4, ga0, ga7, (m8 gb0).1, (m8 gb0).2, gc0, gc7⟩⟩ (by dsimp only; omega) (.cons_cons _ (.cons_cons _ (.cons_cons _ (.cons_cons _ (.refl _))))) (subT.cons rfl (subT.cons rfl (subT.cons rfl (subT.cons rfl (subT.cons rfl (subT.cons rfl (subT.cons rfl subT.nil)))))))
            ·
              refine h_exit ?_
              exact join rfl ⟨_, hg⟩ (.refl _) (.cons_cons _ (.cons_cons _ (.cons_cons _ (.cons_cons _ (List.nil_sublist _))))) (subT.cons rfl (subT.cons rfl (subT.cons rfl (subT.cons rfl subT.nil))))
          ·
            have g37 : _ = true := g37
            refine o_guardn rfl rfl g37 (by decide) ?_
            refine o_guardn rfl rfl g37 (by decide) ?_
            refine o_guardn rfl rfl g37 (by decide) ?_
            refine o_guardn rfl rfl g37 (by decide) ?_
            refine o_guardn rfl rfl g37 (by decide) ?_
            refine o_guardn rfl rfl g37 (by decide) ?_
            refine o_guardy rfl rfl (by simp; omega) (by decide) ?_
            refine o_pickt rfl g37 rfl (by decide) ?_
            refine o_pickt rfl (by simp; omega) rfl (by decide) ?_
            refine o_nil ?_
            refine h_condt rfl rfl ?_
            refine h_skip ?_
            refine h_seq ?_
            refine h_block ?_
            refine h_region ?_
            refine o_faddr rfl rfl (by decide) (by decide) ?_
            refine o_load 0 rfl rfl rfl rfl (by decide) ?_
            refine o_add rfl rfl (by unfold in64; (try dsimp only); omega) (by decide) ?_
            refine o_rem rfl rfl (by decide) (by decide) ?_
            refine o_faddr rfl rfl (by decide) (by decide) ?_
            refine o_store 0 rfl rfl rfl rfl rfl rfl ?_
            refine o_nil ?_
            refine h_region ?_
            refine o_move rfl (by decide) ?_
            refine o_add rfl rfl (by unfold in64; (try dsimp only); omega) (by decide) ?_
            refine o_assign rfl (by decide) ?_
            refine o_nil ?_
            refine back rfl ⟨i + 1, { e with b := (e.b + 1).tmod 8 }, hlt, ⟨gk1, gk4, gt0, gt4, ga0, ga7, (m8 gb0).1, (m8 gb0).2, gc0, gc7⟩⟩ (by dsimp only; omega) (.cons_cons _ (.cons_cons _ (.cons_cons _ (.cons_cons _ (.refl _))))) (subT.cons rfl (subT.cons rfl (subT.cons rfl (subT.cons rfl (subT.cons rfl (subT.cons rfl (subT.cons rfl subT.nil)))))))
        ·
          refine h_seq ?_
          refine h_seq ?_
          refine h_region ?_
          refine o_move rfl (by decide) ?_
          refine o_cmp rfl rfl rfl (by decide) ?_
          refine o_move rfl (by decide) ?_
          refine o_guardn rfl rfl (by simp <;> omega) (by decide) ?_
          refine o_guardn rfl rfl (by simp <;> omega) (by decide) ?_
          refine o_guardn rfl rfl (by simp <;> omega) (by decide) ?_
          refine o_guardn rfl rfl (by simp <;> omega) (by decide) ?_
          refine o_guardn rfl rfl (by simp <;> omega) (by decide) ?_
          refine o_guardn rfl rfl (by simp <;> omega) (by decide) ?_
          refine o_guardx rfl rfl (by decide) ?_
          refine o_guardx rfl rfl (by decide) ?_
          refine o_guardx rfl rfl (by decide) ?_
          refine o_guardx rfl rfl (by decide) ?_
          refine o_guardx rfl rfl (by decide) ?_
          refine o_guardx rfl rfl (by decide) ?_
          refine o_guardx rfl rfl (by decide) ?_
          refine o_guardn rfl rfl (by simp <;> omega) (by decide) ?_
          refine o_pickf rfl (by simp <;> omega) rfl (by decide) ?_
          refine o_nil ?_
          refine h_condf rfl rfl ?_
          refine h_exit ?_
          exact join rfl ⟨_, hg⟩ (.refl _) (.cons_cons _ (.cons_cons _ (.cons_cons _ (.cons_cons _ (List.nil_sublist _))))) (subT.cons rfl (subT.cons rfl (subT.cons rfl (subT.cons rfl subT.nil))))
      ·
        rintro ⟨e, hg⟩
        dsimp only
        refine h_seqK (ι := {e : Ev // GoodE at_ e}) (fun i => [(3, .ptr x1 0), (5, .ptr x2 0), (6, .ptr x3 0), (7, .ptr x4 0)]) (fun i => [(x4, .box 36 [I i.1.kind, I i.1.t, I i.1.a, I i.1.b, I i.1.c, I i.1.f, I i.1.to, I i.1.m]), (x3, .box 36 [I 0, I 0, I 0, I 0, I 0, I 0, I 0, I 0]), (x2, .box 24 [I y0, I y1, I y2, I y3, I y4, I y5, I y6]), (x1, .box 29 (cellsW w f1 f2 f3))]) ?_ ?_
        ·
          refine h_seq ?_
          refine h_region ?_
          refine o_assign rfl (by decide) ?_
          refine o_nil ?_
          refine h_block ?_
          refine h_famS (ι := OnI at_) (fun i => [(3, .ptr x1 0), (5, .ptr x2 0), (6, .ptr x3 0), (7, .ptr x4 0), (12, I (i.i : Nat))]) (fun i => (x4, .box 36 [I i.e.kind, I i.e.t, I i.e.a, I i.e.b, I i.e.c, I i.e.f, I i.e.to, I i.e.m]) :: (x3, .box 36 [I 0, I 0, I 0, I 0, I 0, I 0, I 0, I 0]) :: (x2, .box 24 [I y0, I y1, I y2, I y3, I y4, I y5, I y6]) :: (x1, .box 29 (cellsW w f1 f2 f3)) :: []) (fun i => 8 - i.i) ⟨0, e, by omega, hg⟩ (.cons_cons _ (.cons_cons _ (.cons_cons _ (.cons_cons _ (.refl _))))) (subT.cons rfl (subT.cons rfl (subT.cons rfl (subT.cons rfl (subT.cons rfl subT.nil))))) ?_
          rintro ⟨i, e, hi, hg⟩
          dsimp only
          obtain ⟨gk1, gk4, gt0, gt4, ga0, ga7, gb0, gb7, gc0, gc7⟩ := id hg
          by_cases hlt : i < 8
          ·
            refine h_seq ?_
            refine h_seq ?_
            refine h_region ?_
            refine o_move rfl (by decide) ?_
            refine o_cmp rfl rfl rfl (by decide) ?_
            refine o_move rfl (by decide) ?_
            refine o_guardy rfl rfl (by simp; omega) (by decide) ?_
            refine o_faddr rfl rfl (by decide) (by decide) ?_
            refine o_guardy rfl rfl (by simp; omega) (by decide) ?_
            refine o_load 0 rfl rfl rfl rfl (by decide) ?_
            refine o_guardy rfl rfl (by simp; omega) (by decide) ?_
            refine o_faddr rfl rfl (by decide) (by decide) ?_
            refine o_guardy rfl rfl (by simp; omega) (by decide) ?_
            refine o_load 0 rfl rfl rfl rfl (by decide) ?_
            refine o_guardy rfl rfl (by simp; omega) (by decide) ?_
            refine o_cmp rfl rfl rfl (by decide) ?_
            refine o_guardy rfl rfl (by simp; omega) (by decide) ?_
            refine o_move rfl (by decide) ?_
            refine o_guard rfl rfl (by decide) (fun g45 => ?_) (fun g45 => ?_)
            ·
              have g45 : _ = false := g45
              refine o_faddr rfl rfl (by decide) (by decide) ?_
              refine o_guardy rfl rfl g45 (by decide) ?_
              refine o_load 3 rfl rfl rfl rfl (by decide) ?_
              refine o_guardy rfl rfl g45 (by decide) ?_
              refine o_faddr rfl rfl (by decide) (by decide) ?_
              refine o_guardy rfl rfl g45 (by decide) ?_
              refine o_load 0 rfl rfl rfl rfl (by decide) ?_
              refine o_guardy rfl rfl g45 (by decide) ?_
              refine o_call1 rfl rfl EntC.out (by decide) (bit42_spec _ _ (by omega) (by omega)) ?_
              refine o_guardy rfl rfl g45 (by decide) ?_
              refine o_not rfl (by decide) ?_
              refine o_guardy rfl rfl (by simp; omega) (by decide) ?_
              refine o_pickf rfl g45 rfl (by decide) ?_
              refine o_pickt rfl (by simp; omega) rfl (by decide) ?_
              refine o_nil ?_
              refine h_cond rfl (fun c47 => ?_) (fun c47 => ?_)
              ·
                refine h_skip ?_
                refine h_seq ?_
                refine h_block ?_
                refine h_region ?_
                refine o_faddr rfl rfl (by decide) (by decide) ?_
                refine o_load 0 rfl rfl rfl rfl (by decide) ?_
                refine o_add rfl rfl (by unfold in64; (try dsimp only); omega) (by decide) ?_
                refine o_rem rfl rfl (by decide) (by decide) ?_
                refine o_faddr rfl rfl (by decide) (by decide) ?_
                refine o_store 0 rfl rfl rfl rfl rfl rfl ?_
                refine o_nil ?_
                refine h_region ?_
                refine o_move rfl (by decide) ?_
                refine o_add rfl rfl (by unfold in64; (try dsimp only); omega) (by decide) ?_
                refine o_assign rfl (by decide) ?_
                refine o_nil ?_
                refine back rfl ⟨i + 1, { e with c := (e.c + 1).tmod 8 }, hlt, ⟨gk1, gk4, gt0, gt4, ga0, ga7, gb0, gb7, (m8 gc0).1, (m8 gc0).2⟩⟩ (by dsimp only; omega) (.cons_cons _ (.cons_cons _ (.cons_cons _ (.cons_cons _ (.refl _))))) (subT.cons rfl (subT.cons rfl (subT.cons rfl (subT.cons rfl (subT.cons rfl subT.nil)))))
              ·
                refine h_exit ?_
                exact join rfl ⟨_, hg⟩ (.refl _) (.cons_cons _ (.cons_cons _ (.cons_cons _ (.cons_cons _ (List.nil_sublist _))))) (subT.cons rfl (subT.cons rfl (subT.cons rfl (subT.cons rfl subT.nil))))
            ·
              have g45 : _ = true := g45
              refine o_guardn rfl rfl g45 (by decide) ?_
              refine o_guardn rfl rfl g45 (by decide) ?_
              refine o_guardn rfl rfl g45 (by decide) ?_
              refine o_guardn rfl rfl g45 (by decide) ?_
              refine o_guardn rfl rfl g45 (by decide) ?_
              refine o_guardy rfl rfl (by simp; omega) (by decide) ?_
              refine o_pickt rfl g45 rfl (by decide) ?_
              refine o_pickt rfl (by simp; omega) rfl (by decide) ?_
              refine o_nil ?_
              refine h_condt rfl rfl ?_
              refine h_skip ?_
              refine h_seq ?_
              refine h_block ?_
              refine h_region ?_
              refine o_faddr rfl rfl (by decide) (by decide) ?_
              refine o_load 0 rfl rfl rfl rfl (by decide) ?_
              refine o_add rfl rfl (by unfold in64; (try dsimp only); omega) (by decide) ?_
              refine o_rem rfl rfl (by decide) (by decide) ?_
              refine o_faddr rfl rfl (by decide) (by decide) ?_
              refine o_store 0 rfl rfl rfl rfl rfl rfl ?_
              refine o_nil ?_
              refine h_region ?_
              refine o_move rfl (by decide) ?_
              refine o_add rfl rfl (by unfold in64; (try dsimp only); omega) (by decide) ?_
              refine o_assign rfl (by decide) ?_
              refine o_nil ?_
              refine back rfl ⟨i + 1, { e with c := (e.c + 1).tmod 8 }, hlt, ⟨gk1, gk4, gt0, gt4, ga0, ga7, gb0, gb7, (m8 gc0).1, (m8 gc0).2⟩⟩ (by dsimp only; omega) (.cons_cons _ (.cons_cons _ (.cons_cons _ (.cons_cons _ (.refl _))))) (subT.cons rfl (subT.cons rfl (subT.cons rfl (subT.cons rfl (subT.cons rfl subT.nil)))))
          ·
            refine h_seq ?_
            refine h_seq ?_
            refine h_region ?_
            refine o_move rfl (by decide) ?_
            refine o_cmp rfl rfl rfl (by decide) ?_
            refine o_move rfl (by decide) ?_
            refine o_guardn rfl rfl (by simp <;> omega) (by decide) ?_
            refine o_guardn rfl rfl (by simp <;> omega) (by decide) ?_
            refine o_guardn rfl rfl (by simp <;> omega) (by decide) ?_
            refine o_guardn rfl rfl (by simp <;> omega) (by decide) ?_
            refine o_guardn rfl rfl (by simp <;> omega) (by decide) ?_
            refine o_guardn rfl rfl (by simp <;> omega) (by decide) ?_
            refine o_guardx rfl rfl (by decide) ?_
            refine o_guardx rfl rfl (by decide) ?_
            refine o_guardx rfl rfl (by decide) ?_
            refine o_guardx rfl rfl (by decide) ?_
            refine o_guardx rfl rfl (by decide) ?_
            refine o_guardx rfl rfl (by decide) ?_
            refine o_guardn rfl rfl (by simp <;> omega) (by decide) ?_
            refine o_pickf rfl (by simp <;> omega) rfl (by decide) ?_
            refine o_nil ?_
            refine h_condf rfl rfl ?_
            refine h_exit ?_
            exact join rfl ⟨_, hg⟩ (.refl _) (.cons_cons _ (.cons_cons _ (.cons_cons _ (.cons_cons _ (List.nil_sublist _))))) (subT.cons rfl (subT.cons rfl (subT.cons rfl (subT.cons rfl subT.nil))))
        ·
          rintro ⟨e, hg⟩
          dsimp only
          refine h_seq ?_
          refine h_region ?_
          refine o_idxa rfl rfl (by decide) (by decide) (by decide) ?_
          refine o_load 2 rfl rfl rfl rfl (by decide) ?_
          refine o_idxa rfl rfl (by decide) (by decide) (by decide) ?_
          refine o_load 2 rfl rfl rfl rfl (by decide) ?_
          refine o_call1 rfl rfl EntC.out (by decide) (piece_spec _ _ hx5 hx6) ?_
          refine o_faddr rfl rfl (by decide) (by decide) ?_
          refine o_store 0 rfl rfl rfl rfl rfl rfl ?_
          refine o_nil ?_
          refine h_seq ?_
          refine h_region ?_
          refine o_idxa rfl rfl (by decide) (by decide) (by decide) ?_
          refine o_load 2 rfl rfl rfl rfl (by decide) ?_
          refine o_call1 rfl rfl EntC.out (by decide) (pick42_spec _ _ (by assumption) (by decide)) ?_
          refine o_sub rfl rfl (by have := pick401 (c := y6); unfold in64; (try dsimp only); omega) (by decide) ?_
          refine o_faddr rfl rfl (by decide) (by decide) ?_
          refine o_store 0 rfl rfl rfl rfl rfl rfl ?_
          refine o_nil ?_
          refine h_seqK (ι := {e : Ev // GoodE at_ e}) (fun i => [(3, .ptr x1 0), (5, .ptr x2 0), (6, .ptr x3 0), (7, .ptr x4 0)]) (fun i => [(x4, .box 36 [I i.1.kind, I i.1.t, I i.1.a, I i.1.b, I i.1.c, I i.1.f, I i.1.to, I i.1.m]), (x3, .box 36 [I 0, I 0, I 0, I 0, I 0, I 0, I 0, I 0]), (x2, .box 24 [I y0, I y1, I y2, I y3, I y4, I y5, I y6]), (x1, .box 29 (cellsW w f1 f2 f3))]) ?_ ?_
          ·
            refine h_seq ?_
            refine h_region ?_
            refine o_faddr rfl rfl (by decide) (by decide) ?_
            refine o_load 0 rfl rfl rfl rfl (by decide) ?_
            refine o_cmp rfl rfl rfl (by decide) ?_
            refine o_nil ?_
            refine h_cond rfl (fun c50 => ?_) (fun c50 => ?_)
            ·
              refine h_region ?_
              refine o_faddr rfl rfl (by decide) (by decide) ?_
              refine o_store 0 rfl rfl rfl rfl rfl rfl ?_
              refine o_nil ?_
              exact join rfl ⟨⟨e.kind, e.t, e.a, e.b, 0, (pieceR y5 y6).1, (pieceR y5 y6).2, pickM y6 401 - 200⟩, ⟨hg.k1, hg.k4, hg.t0, hg.t4, hg.a0, hg.a7, (by first | exact hg.b0 | simp), (by first | exact hg.b7 | simp), (by first | exact hg.c0 | simp), (by first | exact hg.c7 | simp)⟩⟩ (.refl _) (.cons_cons _ (.cons_cons _ (.cons_cons _ (.cons_cons _ (List.nil_sublist _))))) (subT.cons rfl (subT.cons rfl (subT.cons rfl (subT.cons rfl subT.nil))))
            ·
              refine h_skip ?_
              exact join rfl ⟨⟨e.kind, e.t, e.a, e.b, e.c, (pieceR y5 y6).1, (pieceR y5 y6).2, pickM y6 401 - 200⟩, ⟨hg.k1, hg.k4, hg.t0, hg.t4, hg.a0, hg.a7, (by first | exact hg.b0 | simp), (by first | exact hg.b7 | simp), (by first | exact hg.c0 | simp), (by first | exact hg.c7 | simp)⟩⟩ (.refl _) (.cons_cons _ (.cons_cons _ (.cons_cons _ (.cons_cons _ (List.nil_sublist _))))) (subT.cons rfl (subT.cons rfl (subT.cons rfl (subT.cons rfl subT.nil))))
          ·
            rintro ⟨e, hg⟩
            dsimp only
            refine h_seqK (ι := {e : Ev // GoodE at_ e}) (fun i => [(3, .ptr x1 0), (5, .ptr x2 0), (6, .ptr x3 0), (7, .ptr x4 0)]) (fun i => [(x4, .box 36 [I i.1.kind, I i.1.t, I i.1.a, I i.1.b, I i.1.c, I i.1.f, I i.1.to, I i.1.m]), (x3, .box 36 [I 0, I 0, I 0, I 0, I 0, I 0, I 0, I 0]), (x2, .box 24 [I y0, I y1, I y2, I y3, I y4, I y5, I y6]), (x1, .box 29 (cellsW w f1 f2 f3))]) ?_ ?_
            ·
              refine h_seq ?_
              refine h_region ?_
              refine o_faddr rfl rfl (by decide) (by decide) ?_
              refine o_load 0 rfl rfl rfl rfl (by decide) ?_
              refine o_cmp rfl rfl rfl (by decide) ?_
              refine o_move rfl (by decide) ?_
              refine o_guard rfl rfl (by decide) (fun g52 => ?_) (fun g52 => ?_)
              ·
                have g52 : _ = false := g52
                refine o_faddr rfl rfl (by decide) (by decide) ?_
                refine o_guardy rfl rfl g52 (by decide) ?_
                refine o_load 0 rfl rfl rfl rfl (by decide) ?_
                refine o_guardy rfl rfl g52 (by decide) ?_
                refine o_cmp rfl rfl rfl (by decide) ?_
                refine o_pickf rfl g52 rfl (by decide) ?_
                refine o_nil ?_
                refine h_cond rfl (fun c54 => ?_) (fun c54 => ?_)
                ·
                  refine h_seq ?_
                  refine h_region ?_
                  refine o_build rfl rfl (by decide) ?_
                  refine o_faddr rfl rfl (by decide) (by decide) ?_
                  refine o_store 0 rfl rfl rfl rfl rfl rfl ?_
                  refine o_nil ?_
                  refine h_region ?_
                  refine o_faddr rfl rfl (by decide) (by decide) ?_
                  refine o_store 0 rfl rfl rfl rfl rfl rfl ?_
                  refine o_nil ?_
                  exact join rfl ⟨⟨e.kind, e.t, e.a, e.b, e.c, 0, 0, 0⟩, ⟨hg.k1, hg.k4, hg.t0, hg.t4, hg.a0, hg.a7, (by first | exact hg.b0 | simp), (by first | exact hg.b7 | simp), (by first | exact hg.c0 | simp), (by first | exact hg.c7 | simp)⟩⟩ (.refl _) (.cons_cons _ (.cons_cons _ (.cons_cons _ (.cons_cons _ (List.nil_sublist _))))) (subT.cons rfl (subT.cons rfl (subT.cons rfl (subT.cons rfl subT.nil))))
                ·
                  refine h_skip ?_
                  exact join rfl ⟨⟨e.kind, e.t, e.a, e.b, e.c, e.f, e.to, e.m⟩, ⟨hg.k1, hg.k4, hg.t0, hg.t4, hg.a0, hg.a7, (by first | exact hg.b0 | simp), (by first | exact hg.b7 | simp), (by first | exact hg.c0 | simp), (by first | exact hg.c7 | simp)⟩⟩ (.refl _) (.cons_cons _ (.cons_cons _ (.cons_cons _ (.cons_cons _ (List.nil_sublist _))))) (subT.cons rfl (subT.cons rfl (subT.cons rfl (subT.cons rfl subT.nil))))
              ·
                have g52 : _ = true := g52
                refine o_guardn rfl rfl g52 (by decide) ?_
                refine o_guardn rfl rfl g52 (by decide) ?_
                refine o_pickt rfl g52 rfl (by decide) ?_
                refine o_nil ?_
                refine h_condt rfl rfl ?_
                refine h_seq ?_
                refine h_region ?_
                refine o_build rfl rfl (by decide) ?_
                refine o_faddr rfl rfl (by decide) (by decide) ?_
                refine o_store 0 rfl rfl rfl rfl rfl rfl ?_
                refine o_nil ?_
                refine h_region ?_
                refine o_faddr rfl rfl (by decide) (by decide) ?_
                refine o_store 0 rfl rfl rfl rfl rfl rfl ?_
                refine o_nil ?_
                exact join rfl ⟨⟨e.kind, e.t, e.a, e.b, e.c, 0, 0, 0⟩, ⟨hg.k1, hg.k4, hg.t0, hg.t4, hg.a0, hg.a7, (by first | exact hg.b0 | simp), (by first | exact hg.b7 | simp), (by first | exact hg.c0 | simp), (by first | exact hg.c7 | simp)⟩⟩ (.refl _) (.cons_cons _ (.cons_cons _ (.cons_cons _ (.cons_cons _ (List.nil_sublist _))))) (subT.cons rfl (subT.cons rfl (subT.cons rfl (subT.cons rfl subT.nil))))
            ·
              rintro ⟨e, hg⟩
              dsimp only
              refine h_seqK (ι := {e : Ev // GoodE at_ e}) (fun i => [(3, .ptr x1 0), (5, .ptr x2 0), (6, .ptr x3 0), (7, .ptr x4 0)]) (fun i => [(x4, .box 36 [I i.1.kind, I i.1.t, I i.1.a, I i.1.b, I i.1.c, I i.1.f, I i.1.to, I i.1.m]), (x3, .box 36 [I 0, I 0, I 0, I 0, I 0, I 0, I 0, I 0]), (x2, .box 24 [I y0, I y1, I y2, I y3, I y4, I y5, I y6]), (x1, .box 29 (cellsW w f1 f2 f3))]) ?_ ?_
              ·
                refine h_seq ?_
                refine h_region ?_
                refine o_faddr rfl rfl (by decide) (by decide) ?_
                refine o_load 0 rfl rfl rfl rfl (by decide) ?_
                refine o_cmp rfl rfl rfl (by decide) ?_
                refine o_nil ?_
                refine h_cond rfl (fun c56 => ?_) (fun c56 => ?_)
                ·
                  refine h_region ?_
                  refine o_faddr rfl rfl (by decide) (by decide) ?_
                  refine o_store 0 rfl rfl rfl rfl rfl rfl ?_
                  refine o_nil ?_
                  exact join rfl ⟨⟨e.kind, e.t, e.a, 0, e.c, e.f, e.to, e.m⟩, ⟨hg.k1, hg.k4, hg.t0, hg.t4, hg.a0, hg.a7, (by first | exact hg.b0 | simp), (by first | exact hg.b7 | simp), (by first | exact hg.c0 | simp), (by first | exact hg.c7 | simp)⟩⟩ (.refl _) (.cons_cons _ (.cons_cons _ (.cons_cons _ (.cons_cons _ (List.nil_sublist _))))) (subT.cons rfl (subT.cons rfl (subT.cons rfl (subT.cons rfl subT.nil))))
                ·
                  refine h_skip ?_
                  exact join rfl ⟨⟨e.kind, e.t, e.a, e.b, e.c, e.f, e.to, e.m⟩, ⟨hg.k1, hg.k4, hg.t0, hg.t4, hg.a0, hg.a7, (by first | exact hg.b0 | simp), (by first | exact hg.b7 | simp), (by first | exact hg.c0 | simp), (by first | exact hg.c7 | simp)⟩⟩ (.refl _) (.cons_cons _ (.cons_cons _ (.cons_cons _ (.cons_cons _ (List.nil_sublist _))))) (subT.cons rfl (subT.cons rfl (subT.cons rfl (subT.cons rfl subT.nil))))
              ·
                rintro ⟨e, hg⟩
                dsimp only
                refine h_seq ?_
                refine h_region ?_
                refine o_load 0 rfl rfl rfl rfl (by decide) ?_
                refine o_store 1 rfl rfl rfl rfl rfl rfl ?_
                refine o_nil ?_
                refine h_ret ?_
                exact retG [] (.cons (resC 1 rfl rfl rfl) .nil) (List.nil_sublist _) ⟨_, rfl, ⟨e, rfl, hg⟩, rfl⟩

end Go.Proofs.Ytbnonekkjjcdgaa
