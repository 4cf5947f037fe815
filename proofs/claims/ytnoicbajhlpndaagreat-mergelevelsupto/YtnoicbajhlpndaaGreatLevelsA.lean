/- The walk of the law MergeLevels. -/
import Derived.Test.YtnoicbajhlpndaaGreatTimeA
namespace Go.Proofs.YtnoicbajhlpndaaGreat
open Go Go.RowKit Go.Shelf Hp
set_option maxRecDepth 10000
set_option maxHeartbeats 1000000
set_option linter.unusedVariables false
set_option linter.unusedSimpArgs false
attribute [local irreducible] WP WPs FnX IterX YdX RetP PanP Ch Back Join
theorem ok3_nil : ok3 [] := fun k hk => by simp at hk

theorem mergeLevels_spec (a0 a1 a2 : Int) (ha0 : in64 a0) (ha1 : in64 a1) (ha2 : in64 a2) (x : List T3) (hxl : x.length ≤ 1000000000) (hx : ok3 x) (fx : Bool) (z : List T7) (hzl : z.length ≤ 1000000000) (hz : ok7 z) (fz : Bool) (a3 a4 a5 : Int) (ha3 : in64 a3) (ha4 : in64 a4) (ha5 : in64 a5) : Fn1 Tryz.prog 5 [.agg [I a0, I a1, I a2], V (x.map enc3) fx, V (z.map enc7) fz, I a3, I a4, I a5] (B true) := by
 refine fnE_intro (N := 139) Tryz.func5 rfl rfl rfl ?_
 intro X
 refine h_seq <| h_region <| o_box rfl rfl dQ fun x1 => o_assign rfl dQ <| o_nil <| h_seq <| h_region <| o_call1 rfl rfl EntC.out dQ sane_spec <| o_assign rfl dQ <| o_nil <| h_seq <| h_seq ?_
 refine h_region <| o_move rfl dQ <| o_not rfl dQ <| o_nil <| h_condf rfl rfl <| h_skip <| h_seq <| h_region <| o_load 0 rfl rfl rfl rfl dQ <| o_move rfl dQ <| o_callN rfl rfl EntC.out dQ (made_spec a0 a1 a2 ha0 ha1 ha2 x [] hxl (by simp) hx ok3_nil fx true) fun v h' hr => ?_
 obtain ⟨⟨ds, w1, w2, w3, w4, rfl, hdl, hgd⟩, rfl⟩ := hr
 obtain ⟨hmv, hmb, hmm, hma⟩ := made_valid a0 a1 x a2 ds hdl hgd
 obtain ⟨w, hw⟩ : ∃ w, w = madeW a0 a1 x a2 ds := ⟨_, rfl⟩
 rw [← hw] at hmv hmb hmm ⊢
 refine o_move rfl dQ <| o_extract rfl rfl dQ <| o_extract rfl rfl dQ <| o_alloc dQ fun x3 => ?_
 refine o_store 0 rfl rfl rfl rfl rfl rfl <| o_assign rfl dQ <| o_nil <| h_seq <| h_region <| o_load 0 rfl rfl rfl rfl dQ <| o_move rfl dQ <| o_callN rfl rfl EntC.out dQ (events42_spec w hmv w1 w2 w3 z hzl hz fz) fun v h' hr => ?_
 obtain ⟨⟨l, fl, rfl, hl8, hps⟩, rfl⟩ := hr
 refine o_assign rfl dQ <| o_nil <| h_seq <| h_draw _ (.cons_cons _ (.cons_cons _ (List.nil_sublist _))) [(0, .box), (1, .flo), (2, .flo), (3, .flo), (4, .flo), (5, .flo), (6, .flo), (7, .flo), (8, .new), (9, .sto), (10, .flo)] mixed (by kernel_rfl) <| c_box rfl rfl (fun _ _ _ _ jj => o_load 0 rfl rfl rfl rfl dQ jj) <| c_flo rfl rfl (fun _ _ _ _ jj => o_move rfl dQ jj) <| c_flo rfl rfl (fun _ _ _ _ jj => o_move rfl dQ jj) ?_
 refine c_flo rfl rfl (fun _ _ _ _ jj => o_call1 rfl rfl EntC.out dQ (pickL_spec _ _ (by first | exact ha3 | exact ha4 | exact ha5) dQ) jj) ?_
 refine c_flo rfl rfl (fun _ _ _ _ jj => o_call1 rfl rfl EntC.out dQ (atF_spec w l (pickM a3 40) (by omega) w1 w2 w3 fl) jj) <| c_flo rfl rfl (fun _ _ _ _ jj => o_move rfl dQ jj) <| c_flo rfl rfl (fun _ _ _ _ jj => o_extract rfl rfl dQ jj) <| c_flo rfl rfl (fun _ _ _ _ jj => o_extract rfl rfl dQ jj) <| c_new rfl rfl (fun _ _ _ _ jj => o_alloc dQ jj) fun x4 => ?_
 refine c_sto (.cons _ (.cons_cons _ (.cons_cons _ (List.nil_sublist _)))) rfl rfl (fun _ _ _ _ jj => o_store 0 rfl rfl rfl rfl rfl rfl jj) <| c_flo rfl rfl (fun _ _ _ _ jj => o_assign rfl dQ jj) <| c_nil ?_
 have pT := pickM_range (c := a3) (n := 40) (by omega)
 have pb := pickM_range (c := a4) (n := 8) (by omega)
 have pc := pickM_range (c := a5) (n := 8) (by omega)
 have hat := atMW_of hmv (by omega) hps (s := pickM a3 40) pT.1 (by omega)
 have hvv := worldA_valid hmv (poss_until (s := pickM a3 40) hps)
 rw [hat]
 dsimp only
 obtain ⟨v, hv⟩ : ∃ v, v = worldA w (untilM l (pickM a3 40)) := ⟨_, rfl⟩
 rw [← hv] at hvv ⊢
 have hvl := hvv.ll
 refine h_seq <| h_seq <| h_region <| o_move rfl dQ <| o_cmp rfl rfl rfl dQ <| o_move rfl dQ <| o_guardy rfl rfl dQ dQ <| o_faddr rfl rfl dQ dQ <| o_guardy rfl rfl dQ dQ <| o_load 0 rfl rfl rfl rfl dQ <| o_guardy rfl rfl dQ dQ <| o_len rfl dQ ?_
 refine o_guardy rfl rfl dQ dQ <| o_cmp rfl rfl rfl dQ <| o_pickf rfl dQ rfl dQ <| o_nil <| h_condf rfl (by simp [hvl]) ?_
 refine h_skip <| h_seq <| h_region <| o_move rfl dQ ?_
 refine o_call1 rfl rfl EntC.out dQ (pickL_spec _ _ (by first | exact ha3 | exact ha4 | exact ha5) dQ) ?_
 refine o_assign rfl dQ <| o_nil <| h_seq <| h_region <| o_move rfl dQ ?_
 refine o_call1 rfl rfl EntC.out dQ (pickL_spec _ _ (by first | exact ha3 | exact ha4 | exact ha5) dQ) ?_
 refine o_assign rfl dQ <| o_nil ?_
 obtain ⟨b, hb⟩ : ∃ b, b = pickM a4 8 := ⟨_, rfl⟩
 obtain ⟨c, hc⟩ : ∃ c, c = pickM a5 8 := ⟨_, rfl⟩
 rw [← hb] at pb ⊢
 rw [← hc] at pc ⊢
 have ldb := lev_dead (j := b) hvv pb.1 (by omega)
 have llb := lev_bound hvv b.toNat
 have llc := lev_bound hvv c.toNat
 have lcl := lev_close hvv pb.1 (by omega) pc.1 (by omega)
 have lup := up_law hvv pb.1 (by omega)
 refine h_seq <| h_seq <| h_region <| o_faddr rfl rfl dQ dQ <| o_load 0 rfl rfl rfl rfl dQ <| o_move rfl dQ ?_
 refine o_call1 rfl rfl EntC.out dQ (bitL_spec _ _ (by omega) (by omega)) <| o_not rfl dQ <| o_move rfl dQ <| o_guard rfl rfl dQ (fun g8 => ?_) (fun g8 => ?_)
 ·
  have g8 : _ = false := g8
  refine o_faddr rfl rfl dQ dQ <| o_guardy rfl rfl g8 dQ <| o_load 0 rfl rfl rfl rfl dQ <| o_guardy rfl rfl g8 dQ <| o_move rfl dQ <| o_guardy rfl rfl g8 dQ ?_
  refine o_call1 rfl rfl EntC.out dQ (bitL_spec _ _ (by omega) (by omega)) <| o_guardy rfl rfl g8 dQ <| o_not rfl dQ <| o_pickf rfl g8 rfl dQ <| o_nil <| h_cond rfl (fun c10 => ?_) (fun c10 => ?_)
  ·
   refine h_seq <| h_region <| o_faddr rfl rfl dQ dQ <| o_load 0 rfl rfl rfl rfl dQ <| o_move rfl dQ ?_
   refine o_call1 rfl rfl EntC.out dQ (bitL_spec _ _ (by omega) (by omega)) <| o_move rfl dQ <| o_guard rfl rfl dQ (fun g12 => ?_) (fun g12 => ?_)
   ·
    have g12 : _ = false := g12
    refine o_faddr rfl rfl dQ dQ <| o_guardy rfl rfl g12 dQ <| o_load 0 rfl rfl rfl rfl dQ <| o_guardy rfl rfl g12 dQ <| o_move rfl dQ <| o_guardy rfl rfl g12 dQ <| o_idxv rfl rfl (by omega) (eltIn (by omega)) rfl dQ <| o_guardy rfl rfl g12 dQ <| o_loadv rfl rfl dQ <| o_guardy rfl rfl g12 dQ <| o_cmp rfl rfl rfl dQ <| o_pickf rfl g12 rfl dQ ?_
    refine o_assign rfl dQ <| o_nil <| h_ret <| ret1' rfl (B_eq ?_)
    simp_all
   ·
    have g12 : _ = true := g12
    refine o_guardn rfl rfl g12 dQ <| o_guardn rfl rfl g12 dQ <| o_guardn rfl rfl g12 dQ <| o_guardn rfl rfl g12 dQ <| o_guardn rfl rfl g12 dQ <| o_pickt rfl g12 rfl dQ <| o_assign rfl dQ <| o_nil <| h_ret <| ret1' rfl (B_eq ?_)
    simp_all
  ·
   refine h_skip <| h_seq <| h_draw _ (List.nil_sublist _) [(0, .flo), (1, .val), (2, .flo), (3, .flo), (4, .val), (5, .flo), (6, .val), (7, .flo), (8, .flo), (9, .val), (10, .flo), (11, .flo)] mixed (by kernel_rfl) <| c_flo rfl rfl (fun _ _ _ _ jj => o_faddr rfl rfl dQ dQ jj) <| c_val rfl rfl (fun _ _ _ _ jj => o_load 0 rfl rfl rfl rfl dQ jj) <| c_flo rfl rfl (fun _ _ _ _ jj => o_move rfl dQ jj) <| c_flo rfl rfl (fun _ _ _ _ jj => o_idxv rfl rfl (by omega) (eltIn (by omega)) rfl dQ jj) <| c_val rfl rfl (fun _ _ _ _ jj => o_loadv rfl rfl dQ jj) <| c_flo rfl rfl (fun _ _ _ _ jj => o_faddr rfl rfl dQ dQ jj) <| c_val rfl rfl (fun _ _ _ _ jj => o_load 0 rfl rfl rfl rfl dQ jj) <| c_flo rfl rfl (fun _ _ _ _ jj => o_move rfl dQ jj) <| c_flo rfl rfl (fun _ _ _ _ jj => o_idxv rfl rfl (by omega) (eltIn (by omega)) rfl dQ jj) ?_
   refine c_val rfl rfl (fun _ _ _ _ jj => o_loadv rfl rfl dQ jj) <| c_flo rfl rfl (fun _ _ _ _ jj => o_sub rfl rfl (by unfold in64; (try dsimp only); omega) dQ jj) ?_
   refine c_flo rfl rfl (fun _ _ _ _ jj => o_assign rfl dQ jj) <| c_nil <| h_seq <| h_seq <| h_region <| o_move rfl dQ <| o_cmp rfl rfl rfl dQ <| o_move rfl dQ <| o_guardy rfl rfl (by have hbb : bitM v.alive b = true := (by simp_all); have hcc : bitM v.alive c = true := (by simp_all); have := lcl hbb hcc; rw [decide_eq_false_iff_not]; omega) dQ ?_
   refine o_move rfl dQ <| o_guardy rfl rfl (by have hbb : bitM v.alive b = true := (by simp_all); have hcc : bitM v.alive c = true := (by simp_all); have := lcl hbb hcc; rw [decide_eq_false_iff_not]; omega) dQ ?_
   refine o_cmp rfl rfl rfl dQ <| o_pickf rfl (by have hbb : bitM v.alive b = true := (by simp_all); have hcc : bitM v.alive c = true := (by simp_all); have := lcl hbb hcc; rw [decide_eq_false_iff_not]; omega) rfl dQ ?_
   refine o_nil <| h_condf rfl (by have hbb : bitM v.alive b = true := (by simp_all); have hcc : bitM v.alive c = true := (by simp_all); have := lcl hbb hcc; rw [decide_eq_false_iff_not]; omega) ?_
   refine h_skip <| h_seq <| h_region <| o_load 0 rfl rfl rfl rfl dQ <| o_move rfl dQ <| o_build rfl rfl dQ <| o_call1 rfl rfl EntC.out dQ (stepF_spec v (upE b) _ _ _) <| o_move rfl dQ <| o_extract rfl rfl dQ <| o_extract rfl rfl dQ <| o_alloc dQ fun x16 => ?_
   refine o_store 0 rfl rfl rfl rfl rfl rfl <| o_assign rfl dQ <| o_nil <| h_seq <| h_seq <| h_region <| o_move rfl dQ <| o_cmp rfl rfl rfl dQ <| o_nil <| h_cond rfl (fun c18 => ?_) (fun c18 => ?_)
   ·
    refine h_seq <| h_region <| o_move rfl dQ <| o_cmp rfl rfl rfl dQ <| o_assign rfl dQ <| o_nil <| h_ret <| ret1' rfl (B_eq ?_)
    have hbb : bitM v.alive b = true := by simp_all
    have hcc : bitM v.alive c = true := by simp_all
    have lcl' := lcl hbb hcc
    obtain ⟨lu1, lu2⟩ := lup hbb
    have hlt := lu2 c pc.1 (by omega) hcc (by have := c18; simp only [decide_eq_true_eq] at this; omega)
    simp [hlt]
   ·
    refine h_skip <| h_seq <| h_draw _ (List.nil_sublist _) [(0, .flo), (1, .flo), (2, .flo), (3, .flo), (4, .flo), (5, .flo), (6, .val), (7, .flo), (8, .flo), (9, .flo), (10, .flo), (11, .val), (12, .flo), (13, .flo), (14, .val), (15, .flo), (16, .val), (17, .flo), (18, .flo), (19, .val), (20, .flo), (21, .flo), (22, .flo), (23, .flo), (24, .flo), (25, .val), (26, .flo), (27, .val), (28, .flo), (29, .flo), (30, .flo), (31, .flo)] mixed (by kernel_rfl) <| c_flo rfl rfl (fun _ _ _ _ jj => o_move rfl dQ jj) <| c_flo rfl rfl (fun _ _ _ _ jj => o_cmp rfl rfl rfl dQ jj) <| c_flo rfl rfl (fun _ _ _ _ jj => o_move rfl dQ jj) <| c_split (t := 110) rfl (fun g21 => ?_) (fun g21 => ?_)
    ·
     have g21 : _ = true := g21
     refine c_flo rfl rfl (fun _ _ _ _ jj => o_guardn rfl rfl g21 dQ jj) <| c_flo rfl rfl (fun _ _ _ _ jj => o_guardn rfl rfl g21 dQ jj) <| c_flo rfl rfl (fun _ _ _ _ jj => o_guardn rfl rfl g21 dQ jj) <| c_val rfl rfl (fun _ _ _ _ jj => o_guardx rfl rfl dQ jj) <| c_flo rfl rfl (fun _ _ _ _ jj => o_guardx rfl rfl dQ jj) <| c_flo rfl rfl (fun _ _ _ _ jj => o_guardn rfl rfl g21 dQ jj) <| c_flo rfl rfl (fun _ _ _ _ jj => o_guardn rfl rfl g21 dQ jj) <| c_flo rfl rfl (fun _ _ _ _ jj => o_guardx rfl rfl dQ jj) <| c_val rfl rfl (fun _ _ _ _ jj => o_guardx rfl rfl dQ jj) <| c_flo rfl rfl (fun _ _ _ _ jj => o_guardx rfl rfl dQ jj) <| c_flo rfl rfl (fun _ _ _ _ jj => o_guardx rfl rfl dQ jj) <| c_val rfl rfl (fun _ _ _ _ jj => o_guardx rfl rfl dQ jj) ?_
     refine c_flo rfl rfl (fun _ _ _ _ jj => o_guardx rfl rfl dQ jj) <| c_val rfl rfl (fun _ _ _ _ jj => o_guardx rfl rfl dQ jj) <| c_flo rfl rfl (fun _ _ _ _ jj => o_guardx rfl rfl dQ jj) <| c_flo rfl rfl (fun _ _ _ _ jj => o_guardx rfl rfl dQ jj) <| c_val rfl rfl (fun _ _ _ _ jj => o_guardx rfl rfl dQ jj) <| c_flo rfl rfl (fun _ _ _ _ jj => o_guardx rfl rfl dQ jj) <| c_flo rfl rfl (fun _ _ _ _ jj => o_guardx rfl rfl dQ jj) <| c_flo rfl rfl (fun _ _ _ _ jj => o_guardn rfl rfl g21 dQ jj) <| c_flo rfl rfl (fun _ _ _ _ jj => o_guardn rfl rfl g21 dQ jj) <| c_flo rfl rfl (fun _ _ _ _ jj => o_guardx rfl rfl dQ jj) <| c_val rfl rfl (fun _ _ _ _ jj => o_guardx rfl rfl dQ jj) <| c_flo rfl rfl (fun _ _ _ _ jj => o_guardx rfl rfl dQ jj) ?_
     refine c_val rfl rfl (fun _ _ _ _ jj => o_guardx rfl rfl dQ jj) <| c_flo rfl rfl (fun _ _ _ _ jj => o_guardx rfl rfl dQ jj) <| c_flo rfl rfl (fun _ _ _ _ jj => o_guardn rfl rfl g21 dQ jj) <| c_flo rfl rfl (fun _ _ _ _ jj => o_pickt rfl g21 rfl dQ jj) <| c_flo rfl rfl (fun _ _ _ _ jj => o_assign rfl dQ jj) <| c_nil <| h_ret <| ret1' rfl (B_eq ?_)
     have hbb : bitM v.alive b = true := by simp_all
     have hcc : bitM v.alive c = true := by simp_all
     have lcl' := lcl hbb hcc
     obtain ⟨lu1, lu2⟩ := lup hbb
     first | rfl | (rcases lu1 with lu1 | ⟨q1, q2, q3, q4⟩ <;> simp_all)
    ·
     have g21 : _ = false := g21
     refine c_flo rfl rfl (fun _ _ _ _ jj => o_guardy rfl rfl g21 dQ (o_move rfl dQ jj)) <| c_flo rfl rfl (fun _ _ _ _ jj => o_guardy rfl rfl g21 dQ (o_cmp rfl rfl rfl dQ jj)) <| c_flo rfl rfl (fun _ _ _ _ jj => o_guardy rfl rfl g21 dQ (o_move rfl dQ jj)) <| c_split (t := 113) rfl (fun g23 => ?_) (fun g23 => ?_)
     ·
      have g23 : _ = true := g23
      refine c_val rfl rfl (fun _ _ _ _ jj => o_guardy rfl rfl g23 dQ (o_load 0 rfl rfl rfl rfl dQ jj)) <| c_flo rfl rfl (fun _ _ _ _ jj => o_guardy rfl rfl g23 dQ (o_call1 rfl rfl EntC.out dQ (mvalid_spec _ _ _ _) jj)) <| c_flo rfl rfl (fun _ _ _ _ jj => o_guardy rfl rfl g21 dQ (o_pickt rfl g23 rfl dQ jj)) <| c_flo rfl rfl (fun _ _ _ _ jj => o_guardy rfl rfl g21 dQ (o_move rfl dQ jj)) <| c_split (t := 117) rfl (fun g25 => ?_) (fun g25 => ?_)
      ·
       have g25 : _ = true := g25
       refine c_flo rfl rfl (fun _ _ _ _ jj => o_guardy rfl rfl g25 dQ (o_faddr rfl rfl dQ dQ jj)) <| c_val rfl rfl (fun _ _ _ _ jj => o_guardy rfl rfl g25 dQ (o_load 0 rfl rfl rfl rfl dQ jj)) <| c_flo rfl rfl (fun _ _ _ _ jj => o_guardy rfl rfl g25 dQ (o_move rfl dQ jj)) <| c_flo rfl rfl (fun _ _ _ _ jj => o_guardy rfl rfl g25 dQ (o_idxv rfl rfl (by omega) (eltIn (by have h9 := ((valid_iff _).1 g25).ll; omega)) rfl dQ jj)) ?_
       refine c_val rfl rfl (fun _ _ _ _ jj => o_guardy rfl rfl g25 dQ (o_loadv rfl rfl dQ jj)) <| c_flo rfl rfl (fun _ _ _ _ jj => o_guardy rfl rfl g25 dQ (o_faddr rfl rfl dQ dQ jj)) <| c_val rfl rfl (fun _ _ _ _ jj => o_guardy rfl rfl g25 dQ (o_load 1 rfl rfl rfl rfl dQ jj)) <| c_flo rfl rfl (fun _ _ _ _ jj => o_guardy rfl rfl g25 dQ (o_move rfl dQ jj)) <| c_flo rfl rfl (fun _ _ _ _ jj => o_guardy rfl rfl g25 dQ (o_idxv rfl rfl (by omega) (eltIn (by omega)) rfl dQ jj)) <| c_val rfl rfl (fun _ _ _ _ jj => o_guardy rfl rfl g25 dQ (o_loadv rfl rfl dQ jj)) <| c_flo rfl rfl (fun _ _ _ _ jj => o_guardy rfl rfl g25 dQ (o_add rfl rfl (by unfold in64; (try dsimp only); omega) dQ jj)) ?_
       refine c_flo rfl rfl (fun _ _ _ _ jj => o_guardy rfl rfl g25 dQ (o_cmp rfl rfl rfl dQ jj)) <| c_flo rfl rfl (fun _ _ _ _ jj => o_guardy rfl rfl g21 dQ (o_pickt rfl g25 rfl dQ jj)) <| c_flo rfl rfl (fun _ _ _ _ jj => o_guardy rfl rfl g21 dQ (o_move rfl dQ jj)) <| c_split (t := 131) rfl (fun g27 => ?_) (fun g27 => ?_)
       ·
        have g27 : _ = true := g27
        refine c_flo rfl rfl (fun _ _ _ _ jj => o_guardy rfl rfl g27 dQ (o_faddr rfl rfl dQ dQ jj)) <| c_val rfl rfl (fun _ _ _ _ jj => o_guardy rfl rfl g27 dQ (o_load 0 rfl rfl rfl rfl dQ jj)) <| c_flo rfl rfl (fun _ _ _ _ jj => o_guardy rfl rfl g27 dQ (o_faddr rfl rfl dQ dQ jj)) <| c_val rfl rfl (fun _ _ _ _ jj => o_guardy rfl rfl g27 dQ (o_load 1 rfl rfl rfl rfl dQ jj)) ?_
        refine c_flo rfl rfl (fun _ _ _ _ jj => o_guardy rfl rfl g27 dQ (o_call1 rfl rfl EntC.out dQ (same13_spec _ _ (by have := valid_len hvv.blk; have h2 := stepM_small v (upE b); exact h2.1) (by have := valid_len hvv.blk; omega) _ _) jj)) ?_
        refine c_flo rfl rfl (fun _ _ _ _ jj => o_guardy rfl rfl g21 dQ (o_pickt rfl g27 rfl dQ jj)) <| c_flo rfl rfl (fun _ _ _ _ jj => o_pickf rfl g21 rfl dQ jj) <| c_flo rfl rfl (fun _ _ _ _ jj => o_assign rfl dQ jj) <| c_nil <| h_ret <| ret1' rfl (B_eq ?_)
        have hbb : bitM v.alive b = true := by simp_all
        have hcc : bitM v.alive c = true := by simp_all
        have lcl' := lcl hbb hcc
        obtain ⟨lu1, lu2⟩ := lup hbb
        first | rfl | (rcases lu1 with lu1 | ⟨q1, q2, q3, q4⟩ <;> simp_all)
       ·
        have g27 : _ = false := g27
        refine c_flo rfl rfl (fun _ _ _ _ jj => o_guardn rfl rfl g27 dQ jj) <| c_val rfl rfl (fun _ _ _ _ jj => o_guardn rfl rfl g27 dQ jj) <| c_flo rfl rfl (fun _ _ _ _ jj => o_guardn rfl rfl g27 dQ jj) <| c_val rfl rfl (fun _ _ _ _ jj => o_guardn rfl rfl g27 dQ jj) <| c_flo rfl rfl (fun _ _ _ _ jj => o_guardn rfl rfl g27 dQ jj) <| c_flo rfl rfl (fun _ _ _ _ jj => o_guardy rfl rfl g21 dQ (o_pickf rfl g27 rfl dQ jj)) <| c_flo rfl rfl (fun _ _ _ _ jj => o_pickf rfl g21 rfl dQ jj) <| c_flo rfl rfl (fun _ _ _ _ jj => o_assign rfl dQ jj) <| c_nil <| h_ret <| ret1' rfl (B_eq ?_)
        have hbb : bitM v.alive b = true := by simp_all
        have hcc : bitM v.alive c = true := by simp_all
        have lcl' := lcl hbb hcc
        obtain ⟨lu1, lu2⟩ := lup hbb
        first | rfl | (rcases lu1 with lu1 | ⟨q1, q2, q3, q4⟩ <;> simp_all)
      ·
       have g25 : _ = false := g25
       refine c_flo rfl rfl (fun _ _ _ _ jj => o_guardn rfl rfl g25 dQ jj) <| c_val rfl rfl (fun _ _ _ _ jj => o_guardn rfl rfl g25 dQ jj) <| c_flo rfl rfl (fun _ _ _ _ jj => o_guardn rfl rfl g25 dQ jj) <| c_flo rfl rfl (fun _ _ _ _ jj => o_guardn rfl rfl g25 dQ jj) <| c_val rfl rfl (fun _ _ _ _ jj => o_guardn rfl rfl g25 dQ jj) <| c_flo rfl rfl (fun _ _ _ _ jj => o_guardn rfl rfl g25 dQ jj) <| c_val rfl rfl (fun _ _ _ _ jj => o_guardn rfl rfl g25 dQ jj) <| c_flo rfl rfl (fun _ _ _ _ jj => o_guardn rfl rfl g25 dQ jj) <| c_flo rfl rfl (fun _ _ _ _ jj => o_guardn rfl rfl g25 dQ jj) <| c_val rfl rfl (fun _ _ _ _ jj => o_guardn rfl rfl g25 dQ jj) <| c_flo rfl rfl (fun _ _ _ _ jj => o_guardn rfl rfl g25 dQ jj) <| c_flo rfl rfl (fun _ _ _ _ jj => o_guardn rfl rfl g25 dQ jj) ?_
       refine c_flo rfl rfl (fun _ _ _ _ jj => o_guardy rfl rfl g21 dQ (o_pickf rfl g25 rfl dQ jj)) <| c_flo rfl rfl (fun _ _ _ _ jj => o_guardy rfl rfl g21 dQ (o_move rfl dQ jj)) <| c_flo rfl rfl (fun _ _ _ _ jj => o_guardn rfl rfl rfl dQ jj) <| c_val rfl rfl (fun _ _ _ _ jj => o_guardn rfl rfl rfl dQ jj) <| c_flo rfl rfl (fun _ _ _ _ jj => o_guardn rfl rfl rfl dQ jj) <| c_val rfl rfl (fun _ _ _ _ jj => o_guardn rfl rfl rfl dQ jj) <| c_flo rfl rfl (fun _ _ _ _ jj => o_guardn rfl rfl rfl dQ jj) <| c_flo rfl rfl (fun _ _ _ _ jj => o_guardy rfl rfl g21 dQ (o_pickf rfl rfl rfl dQ jj)) <| c_flo rfl rfl (fun _ _ _ _ jj => o_pickf rfl g21 rfl dQ jj) <| c_flo rfl rfl (fun _ _ _ _ jj => o_assign rfl dQ jj) <| c_nil <| h_ret ?_
       refine ret1' rfl (B_eq ?_)
       have hbb : bitM v.alive b = true := by simp_all
       have hcc : bitM v.alive c = true := by simp_all
       have lcl' := lcl hbb hcc
       obtain ⟨lu1, lu2⟩ := lup hbb
       first | rfl | (rcases lu1 with lu1 | ⟨q1, q2, q3, q4⟩ <;> simp_all)
     ·
      have g23 : _ = false := g23
      refine c_val rfl rfl (fun _ _ _ _ jj => o_guardn rfl rfl g23 dQ jj) <| c_flo rfl rfl (fun _ _ _ _ jj => o_guardn rfl rfl g23 dQ jj) <| c_flo rfl rfl (fun _ _ _ _ jj => o_guardy rfl rfl g21 dQ (o_pickf rfl g23 rfl dQ jj)) <| c_flo rfl rfl (fun _ _ _ _ jj => o_guardy rfl rfl g21 dQ (o_move rfl dQ jj)) <| c_flo rfl rfl (fun _ _ _ _ jj => o_guardn rfl rfl rfl dQ jj) <| c_val rfl rfl (fun _ _ _ _ jj => o_guardn rfl rfl rfl dQ jj) <| c_flo rfl rfl (fun _ _ _ _ jj => o_guardn rfl rfl rfl dQ jj) <| c_flo rfl rfl (fun _ _ _ _ jj => o_guardn rfl rfl rfl dQ jj) <| c_val rfl rfl (fun _ _ _ _ jj => o_guardn rfl rfl rfl dQ jj) <| c_flo rfl rfl (fun _ _ _ _ jj => o_guardn rfl rfl rfl dQ jj) <| c_val rfl rfl (fun _ _ _ _ jj => o_guardn rfl rfl rfl dQ jj) <| c_flo rfl rfl (fun _ _ _ _ jj => o_guardn rfl rfl rfl dQ jj) ?_
      refine c_flo rfl rfl (fun _ _ _ _ jj => o_guardn rfl rfl rfl dQ jj) <| c_val rfl rfl (fun _ _ _ _ jj => o_guardn rfl rfl rfl dQ jj) <| c_flo rfl rfl (fun _ _ _ _ jj => o_guardn rfl rfl rfl dQ jj) <| c_flo rfl rfl (fun _ _ _ _ jj => o_guardn rfl rfl rfl dQ jj) <| c_flo rfl rfl (fun _ _ _ _ jj => o_guardy rfl rfl g21 dQ (o_pickf rfl rfl rfl dQ jj)) <| c_flo rfl rfl (fun _ _ _ _ jj => o_guardy rfl rfl g21 dQ (o_move rfl dQ jj)) <| c_flo rfl rfl (fun _ _ _ _ jj => o_guardn rfl rfl rfl dQ jj) <| c_val rfl rfl (fun _ _ _ _ jj => o_guardn rfl rfl rfl dQ jj) <| c_flo rfl rfl (fun _ _ _ _ jj => o_guardn rfl rfl rfl dQ jj) <| c_val rfl rfl (fun _ _ _ _ jj => o_guardn rfl rfl rfl dQ jj) <| c_flo rfl rfl (fun _ _ _ _ jj => o_guardn rfl rfl rfl dQ jj) <| c_flo rfl rfl (fun _ _ _ _ jj => o_guardy rfl rfl g21 dQ (o_pickf rfl rfl rfl dQ jj)) ?_
      refine c_flo rfl rfl (fun _ _ _ _ jj => o_pickf rfl g21 rfl dQ jj) <| c_flo rfl rfl (fun _ _ _ _ jj => o_assign rfl dQ jj) <| c_nil <| h_ret <| ret1' rfl (B_eq ?_)
      have hbb : bitM v.alive b = true := by simp_all
      have hcc : bitM v.alive c = true := by simp_all
      have lcl' := lcl hbb hcc
      obtain ⟨lu1, lu2⟩ := lup hbb
      first | rfl | (rcases lu1 with lu1 | ⟨q1, q2, q3, q4⟩ <;> simp_all)
 ·
  have g8 : _ = true := g8
  refine o_guardn rfl rfl g8 dQ <| o_guardn rfl rfl g8 dQ <| o_guardn rfl rfl g8 dQ <| o_guardn rfl rfl g8 dQ <| o_pickt rfl g8 rfl dQ <| o_nil <| h_condt rfl rfl <| h_seq <| h_region <| o_faddr rfl rfl dQ dQ <| o_load 0 rfl rfl rfl rfl dQ <| o_move rfl dQ ?_
  refine o_call1 rfl rfl EntC.out dQ (bitL_spec _ _ (by omega) (by omega)) <| o_move rfl dQ <| o_guard rfl rfl dQ (fun g30 => ?_) (fun g30 => ?_)
  ·
   have g30 : _ = false := g30
   refine o_faddr rfl rfl dQ dQ <| o_guardy rfl rfl g30 dQ <| o_load 0 rfl rfl rfl rfl dQ <| o_guardy rfl rfl g30 dQ <| o_move rfl dQ <| o_guardy rfl rfl g30 dQ <| o_idxv rfl rfl (by omega) (eltIn (by omega)) rfl dQ <| o_guardy rfl rfl g30 dQ <| o_loadv rfl rfl dQ <| o_guardy rfl rfl g30 dQ <| o_cmp rfl rfl rfl dQ <| o_pickf rfl g30 rfl dQ ?_
   refine o_assign rfl dQ <| o_nil <| h_ret <| ret1' rfl (B_eq ?_)
   simp_all
  ·
   have g30 : _ = true := g30
   refine o_guardn rfl rfl g30 dQ <| o_guardn rfl rfl g30 dQ <| o_guardn rfl rfl g30 dQ <| o_guardn rfl rfl g30 dQ <| o_guardn rfl rfl g30 dQ <| o_pickt rfl g30 rfl dQ <| o_assign rfl dQ <| o_nil <| h_ret <| ret1' rfl (B_eq ?_)
   simp_all

end Go.Proofs.YtnoicbajhlpndaaGreat
