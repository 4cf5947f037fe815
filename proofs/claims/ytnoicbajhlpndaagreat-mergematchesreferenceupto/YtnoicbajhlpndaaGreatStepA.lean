/- The walks of the reference's Only, Overlay, hand, formed, Valid (worlds). -/
import Derived.Test.YtnoicbajhlpndaaGreatWorldA
namespace Go.Proofs.YtnoicbajhlpndaaGreat
open Go Go.RowKit Go.Shelf Hp
set_option maxRecDepth 10000
set_option maxHeartbeats 1000000
set_option linter.unusedVariables false
set_option linter.unusedSimpArgs false
attribute [local irreducible] WP WPs FnX IterX YdX RetP PanP Ch Back Join
def onlyR (l : List Blk) (f t : Int) : List Blk × Int := if (rvalid l && rangeOk f t) = false then ([], 130) else combR l [⟨f, t, 0⟩] 2 (-1) (-1)
def overR (a b : List Blk) : List Blk × Int := if (rvalid a && rvalid b) = false then ([], 130) else combR a b 0 (-1) (-1)
theorem onlyR_len (l : List Blk) (f t : Int) : (onlyR l f t).1.length ≤ 40 := by unfold onlyR; split; simp; exact combR_len _ _ _ _ _
theorem overR_len (a b : List Blk) : (overR a b).1.length ≤ 40 := by unfold overR; split; simp; exact combR_len _ _ _ _ _

theorem ronly_spec (l : List Blk) (hlen : l.length ≤ 1000000000) (fl : Bool) (f t : Int) : Fn1 Tryz.prog 121 [V (l.map encB) fl, .agg [I f, I t]] (encR (onlyR l f t)) := by
 refine fnE_intro (N := 20) Tryz.func121 rfl rfl rfl ?_
 intro X
 refine h_seq<|H<|o_box Z Z K fun x1 => S Z K<|S Z K<|o_nil<|h_seq<|h_seq<|H<|G Z K<|o_call1 Z Z EntC.out K (rvalid_spec l hlen fl)<|o_not Z K ?_
 refine G Z K<|o_guard Z Z K (fun g3 => ?_) (fun g3 => ?_)
 ·
  have g3 : _ = false := g3
  refine O 0 Z Z Z Z K<|W Z Z g3 K<|o_call1 Z Z EntC.out K (rrange_spec _ _)<|W Z Z g3 K<|o_not Z K<|o_pickf Z g3 rfl K<|o_nil<|h_cond Z (fun c5 => ?_) (fun c5 => ?_)
  ·
   refine h_seq<|H<|S Z K<|S Z K<|o_nil<|h_ret<|ret2' Z Z ?_
   have hq : onlyR l f t = ([], 130) := by unfold onlyR; rw [if_pos (by simp_all)]
   rw [hq]; rfl
  ·
   refine h_skip<|h_seq<|H<|G Z K<|O 0 Z Z Z Z K<|o_call1 Z Z EntC.out K (one_spec _ _ _) ?_
   have hrl : l.length ≤ 40 := rvalid_len (by simp_all)
   refine o_call1 Z Z EntC.out K (rcombine_spec l [⟨f, t, 0⟩] (by omega) (by first | (simp; done) | omega) fl true 2 (-1) (-1)) ?_
   refine o_extract Z Z K<|o_extract Z Z K<|S Z K<|S Z K<|o_nil<|h_ret<|ret2' Z Z ?_
   have hq : onlyR l f t = _ := (by unfold onlyR; rw [if_neg (by simp_all)])
   rw [hq]; rfl
 ·
  have g3 : _ = true := g3
  refine U Z Z g3 K<|U Z Z g3 K<|o_pickt Z g3 rfl K<|o_nil<|h_condt Z Z<|h_seq<|H<|S Z K<|S Z K<|o_nil<|h_ret<|ret2' Z Z ?_
  have hq : onlyR l f t = ([], 130) := by unfold onlyR; rw [if_pos (by simp_all)]
  rw [hq]; rfl

theorem roverlay_spec (a b : List Blk) (ha : a.length ≤ 1000000000) (hb : b.length ≤ 1000000000) (fa fb : Bool) : Fn1 Tryz.prog 122 [V (a.map encB) fa, V (b.map encB) fb] (encR (overR a b)) := by
 refine fnE_intro (N := 19) Tryz.func122 rfl rfl rfl ?_
 intro X
 refine h_seq<|H<|S Z K<|S Z K<|o_nil<|h_seq<|h_seq<|H<|G Z K<|o_call1 Z Z EntC.out K (rvalid_spec a ha fa)<|o_not Z K<|G Z K ?_
 refine o_guard Z Z K (fun g7 => ?_) (fun g7 => ?_)
 ·
  have g7 : _ = false := g7
  refine G Z K<|W Z Z g7 K<|o_call1 Z Z EntC.out K (rvalid_spec b hb fb)<|W Z Z g7 K<|o_not Z K<|o_pickf Z g7 rfl K<|o_nil<|h_cond Z (fun c9 => ?_) (fun c9 => ?_)
  ·
   refine h_seq<|H<|S Z K<|S Z K<|o_nil<|h_ret<|ret2' Z Z ?_
   have hq : overR a b = ([], 130) := by unfold overR; rw [if_pos (by simp_all)]
   rw [hq]; rfl
  ·
   refine h_skip<|h_seq<|H<|G Z K<|G Z K ?_
   have hrl : a.length ≤ 40 := rvalid_len (by simp_all)
   have hrl2 : b.length ≤ 40 := rvalid_len (by simp_all)
   refine o_call1 Z Z EntC.out K (rcombine_spec a b (by omega) (by omega) fa fb 0 (-1) (-1))<|o_extract Z Z K<|o_extract Z Z K<|S Z K<|S Z K<|o_nil<|h_ret<|ret2' Z Z ?_
   have hq : overR a b = _ := (by unfold overR; rw [if_neg (by simp_all)])
   rw [hq]; rfl
 ·
  have g7 : _ = true := g7
  refine U Z Z g7 K<|U Z Z g7 K<|o_pickt Z g7 rfl K<|o_nil<|h_condt Z Z<|h_seq<|H<|S Z K<|S Z K<|o_nil<|h_ret<|ret2' Z Z ?_
  have hq : overR a b = ([], 130) := by unfold overR; rw [if_pos (by simp_all)]
  rw [hq]; rfl

/-- A part of a carrier's numbers, given to another one. -/
def handM (l : List Blk) (a b f t : Int) : List Blk × Bool :=
  ((overR l (swapR (onlyR l f t).1 a b).1).1, decide ((onlyR l f t).2 = 0) && decide ((swapR (onlyR l f t).1 a b).2 = 0) && decide ((overR l (swapR (onlyR l f t).1 a b).1).2 = 0))

theorem hand_spec (l : List Blk) (hlen : l.length ≤ 1000000000) (fl : Bool) (a b f t : Int) : Fn1 Tryz.prog 64 [V (l.map encB) fl, I a, I b, .agg [I f, I t]] (.tup [V ((handM l a b f t).1.map encB) (handM l a b f t).1.isEmpty, B (handM l a b f t).2]) := by
 refine fnE_intro (N := 46) Tryz.func64 rfl rfl rfl ?_
 intro X
 refine h_seq<|H<|o_box Z Z K fun x10 => S Z K<|S Z K<|o_nil<|h_seq<|H<|G Z K<|O 0 Z Z Z Z K<|o_call1 Z Z EntC.out K (ronly_spec l hlen fl f t)<|G Z K ?_
 refine o_extract Z Z K<|o_extract Z Z K<|S Z K<|S Z K<|o_nil<|h_seq<|H<|G Z K<|G Z K<|G Z K<|o_call1 Z Z EntC.out K (rswap_spec (onlyR l f t).1 (by have := onlyR_len l f t; omega) _ a b) ?_
 refine G Z K<|o_extract Z Z K<|o_extract Z Z K<|S Z K<|S Z K<|o_nil<|h_seq<|H<|G Z K<|G Z K<|o_call1 Z Z EntC.out K (roverlay_spec l (swapR (onlyR l f t).1 a b).1 hlen (by have := swapR_len (onlyR l f t).1 a b; omega) fl _) ?_
 refine G Z K<|o_extract Z Z K<|o_extract Z Z K<|S Z K<|S Z K<|o_nil<|h_seq<|H<|G Z K<|G Z K<|o_cmp Z Z Z K<|G Z K ?_
 refine o_guard Z Z K (fun g12 => ?_) (fun g12 => ?_)
 ·
  have g12 : _ = true := g12
  refine G Z K<|W Z Z g12 K<|o_cmp Z Z Z K<|o_pickt Z g12 rfl K<|G Z K<|o_guard Z Z K (fun g14 => ?_) (fun g14 => ?_)
  ·
   have g14 : _ = true := g14
   exact G Z K<|W Z Z g14 K<|o_cmp Z Z Z K<|o_pickt Z g14 rfl K<|S Z K<|S Z K<|o_nil<|h_ret<|ret2' Z Z (congrArg (fun z => AV.tup [V ((handM l a b f t).1.map encB) (handM l a b f t).1.isEmpty, B z]) (by simp only [handM]; simp_all))
  ·
   have g14 : _ = false := g14
   exact U Z Z g14 K<|o_pickf Z g14 rfl K<|S Z K<|S Z K<|o_nil<|h_ret<|ret2' Z Z (congrArg (fun z => AV.tup [V ((handM l a b f t).1.map encB) (handM l a b f t).1.isEmpty, B z]) (by simp only [handM]; simp_all))
 ·
  have g12 : _ = false := g12
  exact U Z Z g12 K<|o_pickf Z g12 rfl K<|G Z K<|U Z Z Z K<|U Z Z Z K<|o_pickf Z Z Z K<|S Z K<|S Z K<|o_nil<|h_ret<|ret2' Z Z (congrArg (fun z => AV.tup [V ((handM l a b f t).1.map encB) (handM l a b f t).1.isEmpty, B z]) (by simp only [handM]; simp_all))

theorem all_spec : Fn1 Tryz.prog 65 [] (.agg [I 0, I 100000000]) := by
 refine fnE_intro (N := 2) Tryz.func65 rfl rfl rfl ?_
 intro X
 refine h_seq<|H<|o_alloc K fun x16 => o_nil<|h_seq<|H<|o_build Z Z K ?_
 exact o_store 0 Z Z Z Z Z Z<|o_nil<|h_ret<|retG [] (.cons (resC 0 rfl rfl rfl) .nil) (List.nil_sublist _) ⟨_, rfl, rfl, rfl⟩

def someE (e : Ev) : Bool := rangeOk e.f e.to && inR e.m (-1000000000000) 1000000000000
def formedM (e : Ev) : Bool := inR e.t 0 10000000 && inR e.a 0 7 && inR e.b 0 7 && inR e.c 0 7 &&
  (if e.kind = 1 then bareE e && decide (e.c = 0) && decide (e.a ≠ e.b) else if e.kind = 2 then someE e && decide (e.c = 0) && decide (e.a ≠ e.b) else if e.kind = 3 then someE e && decide (e.a ≠ e.b) && decide (e.a ≠ e.c)
   else decide (e.kind = 4) && bareE e && decide (e.b = 0) && decide (e.c = 0))
theorem formed_no {e : Ev} (h : (inR e.t 0 10000000 && inR e.a 0 7 && inR e.b 0 7 && inR e.c 0 7) = false) : formedM e = false := by simp only [formedM, h, Bool.false_and]
theorem formed_yes {e : Ev} (h : (inR e.t 0 10000000 && inR e.a 0 7 && inR e.b 0 7 && inR e.c 0 7) = true) : formedM e = (if e.kind = 1 then bareE e && decide (e.c = 0) && decide (e.a ≠ e.b) else if e.kind = 2 then someE e && decide (e.c = 0) && decide (e.a ≠ e.b) else if e.kind = 3 then someE e && decide (e.a ≠ e.b) && decide (e.a ≠ e.c)
   else decide (e.kind = 4) && bareE e && decide (e.b = 0) && decide (e.c = 0)) := by simp only [formedM, h, Bool.true_and]

theorem formed_spec (e : Ev) : Fn1 Tryz.prog 63 [encE e] (B (formedM e)) := by
 refine fnE_intro (N := 109) Tryz.func63 rfl rfl rfl ?_
 intro X
 refine h_seq<|H<|o_box Z Z K fun x17 => S Z K<|o_nil<|h_seq<|h_seq<|H<|F Z Z K K<|O 0 Z Z Z Z K<|o_call1 Z Z EntC.out K (in42_spec _ _ _)<|o_not Z K ?_
 refine G Z K<|o_guard Z Z K (fun g19 => ?_) (fun g19 => ?_)
 ·
  have g19 : _ = false := g19
  refine F Z Z K K<|W Z Z g19 K<|O 0 Z Z Z Z K<|W Z Z g19 K<|o_call1 Z Z EntC.out K (in42_spec _ _ _)<|W Z Z g19 K<|o_not Z K<|o_pickf Z g19 rfl K<|G Z K<|o_guard Z Z K (fun g21 => ?_) (fun g21 => ?_)
  ·
   have g21 : _ = false := g21
   refine F Z Z K K<|W Z Z g21 K<|O 0 Z Z Z Z K<|W Z Z g21 K<|o_call1 Z Z EntC.out K (in42_spec _ _ _)<|W Z Z g21 K<|o_not Z K<|o_pickf Z g21 rfl K<|G Z K<|o_guard Z Z K (fun g23 => ?_) (fun g23 => ?_)
   ·
    have g23 : _ = false := g23
    refine F Z Z K K<|W Z Z g23 K<|O 0 Z Z Z Z K<|W Z Z g23 K<|o_call1 Z Z EntC.out K (in42_spec _ _ _)<|W Z Z g23 K<|o_not Z K<|o_pickf Z g23 rfl K<|o_nil<|h_cond Z (fun c25 => ?_) (fun c25 => ?_)
    ·
     refine h_seq<|H<|S Z K<|o_nil<|h_ret<|ret1' Z (B_eq ?_)
     exact (formed_no (by simp_all)).symm
    ·
     refine h_skip<|h_seq<|H<|F Z Z K K<|O 0 Z Z Z Z K<|o_build Z Z K<|o_eqS Z Z Z Z K<|G Z K<|o_guard Z Z K (fun g27 => ?_) (fun g27 => ?_)
     ·
      have g27 : _ = true := g27
      refine F Z Z K K<|W Z Z g27 K<|O 0 Z Z Z Z K<|W Z Z g27 K<|o_cmp Z Z Z K<|o_pickt Z g27 rfl K<|S Z K<|o_nil<|h_seq<|H<|F Z Z K K<|O 0 Z Z Z Z K ?_
      refine o_call1 Z Z EntC.out K (rrange_spec _ _)<|G Z K<|o_guard Z Z K (fun g30 => ?_) (fun g30 => ?_)
      ·
       have g30 : _ = true := g30
       refine F Z Z K K<|W Z Z g30 K<|O 0 Z Z Z Z K<|W Z Z g30 K<|o_call1 Z Z EntC.out K (in42_spec _ _ _)<|o_pickt Z g30 rfl K<|S Z K<|o_nil<|h_seq<|h_seq<|H<|F Z Z K K ?_
       refine O 0 Z Z Z Z K<|o_nil<|h_block<|h_seq<|H<|o_cmp Z Z Z K<|S Z K<|o_nil<|h_cond Z (fun c33 => ?_) (fun c33 => ?_)
       ·
        refine h_seq<|H<|G Z K<|G Z K<|o_guard Z Z K (fun g34 => ?_) (fun g34 => ?_)
        ·
         have g34 : _ = true := g34
         refine F Z Z K K<|W Z Z g34 K<|O 0 Z Z Z Z K<|W Z Z g34 K<|o_cmp Z Z Z K<|o_pickt Z g34 rfl K<|G Z K<|o_guard Z Z K (fun g36 => ?_) (fun g36 => ?_)
         ·
          have g36 : _ = true := g36
          refine F Z Z K K<|W Z Z g36 K<|O 0 Z Z Z Z K<|W Z Z g36 K<|F Z Z K K<|W Z Z g36 K<|O 0 Z Z Z Z K<|W Z Z g36 K<|o_cmp Z Z Z K<|o_pickt Z g36 rfl K<|S Z K<|o_nil ?_
          refine h_ret<|ret1' Z (B_eq ?_)
          rw [formed_yes (by simp_all)]
          have hs1 : bareE e = _ := rfl
          simp only [someE, bareE] at *
          simp_all <;> (first | done | (simp [ceqs, ceq] at *; try omega))
         ·
          have g36 : _ = false := g36
          refine U Z Z g36 K<|U Z Z g36 K<|U Z Z g36 K<|U Z Z g36 K<|o_pickf Z g36 rfl K<|S Z K<|o_nil<|h_ret<|ret1' Z (B_eq ?_)
          rw [formed_yes (by simp_all)]
          have hs1 : bareE e = _ := rfl
          simp only [someE, bareE] at *
          simp_all <;> (first | done | (simp [ceqs, ceq] at *; try omega))
        ·
         have g34 : _ = false := g34
         refine U Z Z g34 K<|U Z Z g34 K<|o_pickf Z g34 rfl K<|G Z K<|U Z Z Z K<|U Z Z Z K<|U Z Z Z K<|U Z Z Z K<|U Z Z Z K<|o_pickf Z Z Z K<|S Z K<|o_nil ?_
         refine h_ret<|ret1' Z (B_eq ?_)
         rw [formed_yes (by simp_all)]
         have hs1 : bareE e = _ := rfl
         simp only [someE, bareE] at *
         simp_all <;> (first | done | (simp [ceqs, ceq] at *; try omega))
       ·
        refine h_seq<|H<|o_cmp Z Z Z K<|S Z K<|o_nil<|h_cond Z (fun c39 => ?_) (fun c39 => ?_)
        ·
         refine h_seq<|H<|G Z K<|G Z K<|o_guard Z Z K (fun g40 => ?_) (fun g40 => ?_)
         ·
          have g40 : _ = true := g40
          refine F Z Z K K<|W Z Z g40 K<|O 0 Z Z Z Z K<|W Z Z g40 K<|o_cmp Z Z Z K<|o_pickt Z g40 rfl K<|G Z K<|o_guard Z Z K (fun g42 => ?_) (fun g42 => ?_)
          ·
           have g42 : _ = true := g42
           refine F Z Z K K<|W Z Z g42 K<|O 0 Z Z Z Z K<|W Z Z g42 K<|F Z Z K K<|W Z Z g42 K<|O 0 Z Z Z Z K<|W Z Z g42 K<|o_cmp Z Z Z K<|o_pickt Z g42 rfl K<|S Z K<|o_nil ?_
           refine h_ret<|ret1' Z (B_eq ?_)
           rw [formed_yes (by simp_all)]
           have hs1 : bareE e = _ := rfl
           simp only [someE, bareE] at *
           simp_all <;> (first | done | (simp [ceqs, ceq] at *; try omega))
          ·
           have g42 : _ = false := g42
           refine U Z Z g42 K<|U Z Z g42 K<|U Z Z g42 K<|U Z Z g42 K<|o_pickf Z g42 rfl K<|S Z K<|o_nil<|h_ret<|ret1' Z (B_eq ?_)
           rw [formed_yes (by simp_all)]
           have hs1 : bareE e = _ := rfl
           simp only [someE, bareE] at *
           simp_all <;> (first | done | (simp [ceqs, ceq] at *; try omega))
         ·
          have g40 : _ = false := g40
          refine U Z Z g40 K<|U Z Z g40 K<|o_pickf Z g40 rfl K<|G Z K<|U Z Z Z K<|U Z Z Z K<|U Z Z Z K<|U Z Z Z K<|U Z Z Z K<|o_pickf Z Z Z K<|S Z K<|o_nil ?_
          refine h_ret<|ret1' Z (B_eq ?_)
          rw [formed_yes (by simp_all)]
          have hs1 : bareE e = _ := rfl
          simp only [someE, bareE] at *
          simp_all <;> (first | done | (simp [ceqs, ceq] at *; try omega))
        ·
         refine h_seq<|H<|o_cmp Z Z Z K<|S Z K<|o_nil<|h_cond Z (fun c45 => ?_) (fun c45 => ?_)
         ·
          refine h_seq<|H<|G Z K<|G Z K<|o_guard Z Z K (fun g46 => ?_) (fun g46 => ?_)
          ·
           have g46 : _ = true := g46
           refine F Z Z K K<|W Z Z g46 K<|O 0 Z Z Z Z K<|W Z Z g46 K<|F Z Z K K<|W Z Z g46 K<|O 0 Z Z Z Z K<|W Z Z g46 K<|o_cmp Z Z Z K<|o_pickt Z g46 rfl K<|G Z K<|o_guard Z Z K (fun g48 => ?_) (fun g48 => ?_)
           ·
            have g48 : _ = true := g48
            refine F Z Z K K<|W Z Z g48 K<|O 0 Z Z Z Z K<|W Z Z g48 K<|F Z Z K K<|W Z Z g48 K<|O 0 Z Z Z Z K<|W Z Z g48 K<|o_cmp Z Z Z K<|o_pickt Z g48 rfl K<|S Z K<|o_nil ?_
            refine h_ret<|ret1' Z (B_eq ?_)
            rw [formed_yes (by simp_all)]
            have hs1 : bareE e = _ := rfl
            simp only [someE, bareE] at *
            simp_all <;> (first | done | (simp [ceqs, ceq] at *; try omega))
           ·
            have g48 : _ = false := g48
            refine U Z Z g48 K<|U Z Z g48 K<|U Z Z g48 K<|U Z Z g48 K<|o_pickf Z g48 rfl K<|S Z K<|o_nil<|h_ret<|ret1' Z (B_eq ?_)
            rw [formed_yes (by simp_all)]
            have hs1 : bareE e = _ := rfl
            simp only [someE, bareE] at *
            simp_all <;> (first | done | (simp [ceqs, ceq] at *; try omega))
          ·
           have g46 : _ = false := g46
           refine U Z Z g46 K<|U Z Z g46 K<|U Z Z g46 K<|U Z Z g46 K<|o_pickf Z g46 rfl K<|G Z K<|U Z Z Z K<|U Z Z Z K<|U Z Z Z K<|U Z Z Z K<|U Z Z Z K<|o_pickf Z Z Z K ?_
           refine S Z K<|o_nil<|h_ret<|ret1' Z (B_eq ?_)
           rw [formed_yes (by simp_all)]
           have hs1 : bareE e = _ := rfl
           simp only [someE, bareE] at *
           simp_all <;> (first | done | (simp [ceqs, ceq] at *; try omega))
         ·
          refine h_skip<|h_seq<|H<|F Z Z K K<|O 0 Z Z Z Z K<|o_cmp Z Z Z K<|G Z K<|o_guard Z Z K (fun g51 => ?_) (fun g51 => ?_)
          ·
           have g51 : _ = true := g51
           refine G Z K<|o_pickt Z g51 rfl K<|G Z K<|o_guard Z Z K (fun g52 => ?_) (fun g52 => ?_)
           ·
            have g52 : _ = true := g52
            refine F Z Z K K<|W Z Z g52 K<|O 0 Z Z Z Z K<|W Z Z g52 K<|o_cmp Z Z Z K<|o_pickt Z g52 rfl K<|G Z K<|o_guard Z Z K (fun g54 => ?_) (fun g54 => ?_)
            ·
             have g54 : _ = true := g54
             refine F Z Z K K<|W Z Z g54 K<|O 0 Z Z Z Z K<|W Z Z g54 K<|o_cmp Z Z Z K<|o_pickt Z g54 rfl K<|S Z K<|o_nil<|h_ret<|ret1' Z (B_eq ?_)
             rw [formed_yes (by simp_all)]
             have hs1 : bareE e = _ := rfl
             simp only [someE, bareE] at *
             simp_all <;> (first | done | (simp [ceqs, ceq] at *; try omega))
            ·
             have g54 : _ = false := g54
             refine U Z Z g54 K<|U Z Z g54 K<|o_pickf Z g54 rfl K<|S Z K<|o_nil<|h_ret<|ret1' Z (B_eq ?_)
             rw [formed_yes (by simp_all)]
             have hs1 : bareE e = _ := rfl
             simp only [someE, bareE] at *
             simp_all <;> (first | done | (simp [ceqs, ceq] at *; try omega))
           ·
            have g52 : _ = false := g52
            refine U Z Z g52 K<|U Z Z g52 K<|o_pickf Z g52 rfl K<|G Z K<|U Z Z Z K<|U Z Z Z K<|U Z Z Z K<|o_pickf Z Z Z K<|S Z K<|o_nil<|h_ret<|ret1' Z (B_eq ?_)
            rw [formed_yes (by simp_all)]
            have hs1 : bareE e = _ := rfl
            simp only [someE, bareE] at *
            simp_all <;> (first | done | (simp [ceqs, ceq] at *; try omega))
          ·
           have g51 : _ = false := g51
           refine o_pickf Z g51 rfl K<|G Z K<|U Z Z Z K<|U Z Z Z K<|U Z Z Z K<|o_pickf Z Z Z K<|G Z K<|U Z Z Z K<|U Z Z Z K<|U Z Z Z K<|o_pickf Z Z Z K<|S Z K ?_
           refine o_nil<|h_ret<|ret1' Z (B_eq ?_)
           rw [formed_yes (by simp_all)]
           have hs1 : bareE e = _ := rfl
           simp only [someE, bareE] at *
           simp_all <;> (first | done | (simp [ceqs, ceq] at *; try omega))
      ·
       have g30 : _ = false := g30
       refine U Z Z g30 K<|U Z Z g30 K<|o_pickf Z g30 rfl K<|S Z K<|o_nil<|h_seq<|h_seq<|H<|F Z Z K K<|O 0 Z Z Z Z K<|o_nil<|h_block ?_
       refine h_seq<|H<|o_cmp Z Z Z K<|S Z K<|o_nil<|h_cond Z (fun c57 => ?_) (fun c57 => ?_)
       ·
        refine h_seq<|H<|G Z K<|G Z K<|o_guard Z Z K (fun g58 => ?_) (fun g58 => ?_)
        ·
         have g58 : _ = true := g58
         refine F Z Z K K<|W Z Z g58 K<|O 0 Z Z Z Z K<|W Z Z g58 K<|o_cmp Z Z Z K<|o_pickt Z g58 rfl K<|G Z K<|o_guard Z Z K (fun g60 => ?_) (fun g60 => ?_)
         ·
          have g60 : _ = true := g60
          refine F Z Z K K<|W Z Z g60 K<|O 0 Z Z Z Z K<|W Z Z g60 K<|F Z Z K K<|W Z Z g60 K<|O 0 Z Z Z Z K<|W Z Z g60 K<|o_cmp Z Z Z K<|o_pickt Z g60 rfl K<|S Z K<|o_nil ?_
          refine h_ret<|ret1' Z (B_eq ?_)
          rw [formed_yes (by simp_all)]
          have hs1 : bareE e = _ := rfl
          simp only [someE, bareE] at *
          simp_all <;> (first | done | (simp [ceqs, ceq] at *; try omega))
         ·
          have g60 : _ = false := g60
          refine U Z Z g60 K<|U Z Z g60 K<|U Z Z g60 K<|U Z Z g60 K<|o_pickf Z g60 rfl K<|S Z K<|o_nil<|h_ret<|ret1' Z (B_eq ?_)
          rw [formed_yes (by simp_all)]
          have hs1 : bareE e = _ := rfl
          simp only [someE, bareE] at *
          simp_all <;> (first | done | (simp [ceqs, ceq] at *; try omega))
        ·
         have g58 : _ = false := g58
         refine U Z Z g58 K<|U Z Z g58 K<|o_pickf Z g58 rfl K<|G Z K<|U Z Z Z K<|U Z Z Z K<|U Z Z Z K<|U Z Z Z K<|U Z Z Z K<|o_pickf Z Z Z K<|S Z K<|o_nil ?_
         refine h_ret<|ret1' Z (B_eq ?_)
         rw [formed_yes (by simp_all)]
         have hs1 : bareE e = _ := rfl
         simp only [someE, bareE] at *
         simp_all <;> (first | done | (simp [ceqs, ceq] at *; try omega))
       ·
        refine h_seq<|H<|o_cmp Z Z Z K<|S Z K<|o_nil<|h_cond Z (fun c63 => ?_) (fun c63 => ?_)
        ·
         refine h_seq<|H<|G Z K<|G Z K<|U Z Z Z K<|U Z Z Z K<|U Z Z Z K<|o_pickf Z Z Z K<|G Z K<|U Z Z Z K<|U Z Z Z K<|U Z Z Z K ?_
         refine U Z Z Z K<|U Z Z Z K<|o_pickf Z Z Z K<|S Z K<|o_nil<|h_ret<|ret1' Z (B_eq ?_)
         rw [formed_yes (by simp_all)]
         have hs1 : bareE e = _ := rfl
         simp only [someE, bareE] at *
         simp_all <;> (first | done | (simp [ceqs, ceq] at *; try omega))
        ·
         refine h_seq<|H<|o_cmp Z Z Z K<|S Z K<|o_nil<|h_cond Z (fun c65 => ?_) (fun c65 => ?_)
         ·
          refine h_seq<|H<|G Z K<|G Z K<|U Z Z Z K<|U Z Z Z K<|U Z Z Z K<|U Z Z Z K<|U Z Z Z K<|o_pickf Z Z Z K<|G Z K<|U Z Z Z K ?_
          refine U Z Z Z K<|U Z Z Z K<|U Z Z Z K<|U Z Z Z K<|o_pickf Z Z Z K<|S Z K<|o_nil<|h_ret<|ret1' Z (B_eq ?_)
          rw [formed_yes (by simp_all)]
          have hs1 : bareE e = _ := rfl
          simp only [someE, bareE] at *
          simp_all <;> (first | done | (simp [ceqs, ceq] at *; try omega))
         ·
          refine h_skip<|h_seq<|H<|F Z Z K K<|O 0 Z Z Z Z K<|o_cmp Z Z Z K<|G Z K<|o_guard Z Z K (fun g67 => ?_) (fun g67 => ?_)
          ·
           have g67 : _ = true := g67
           refine G Z K<|o_pickt Z g67 rfl K<|G Z K<|o_guard Z Z K (fun g68 => ?_) (fun g68 => ?_)
           ·
            have g68 : _ = true := g68
            refine F Z Z K K<|W Z Z g68 K<|O 0 Z Z Z Z K<|W Z Z g68 K<|o_cmp Z Z Z K<|o_pickt Z g68 rfl K<|G Z K<|o_guard Z Z K (fun g70 => ?_) (fun g70 => ?_)
            ·
             have g70 : _ = true := g70
             refine F Z Z K K<|W Z Z g70 K<|O 0 Z Z Z Z K<|W Z Z g70 K<|o_cmp Z Z Z K<|o_pickt Z g70 rfl K<|S Z K<|o_nil<|h_ret<|ret1' Z (B_eq ?_)
             rw [formed_yes (by simp_all)]
             have hs1 : bareE e = _ := rfl
             simp only [someE, bareE] at *
             simp_all <;> (first | done | (simp [ceqs, ceq] at *; try omega))
            ·
             have g70 : _ = false := g70
             refine U Z Z g70 K<|U Z Z g70 K<|o_pickf Z g70 rfl K<|S Z K<|o_nil<|h_ret<|ret1' Z (B_eq ?_)
             rw [formed_yes (by simp_all)]
             have hs1 : bareE e = _ := rfl
             simp only [someE, bareE] at *
             simp_all <;> (first | done | (simp [ceqs, ceq] at *; try omega))
           ·
            have g68 : _ = false := g68
            refine U Z Z g68 K<|U Z Z g68 K<|o_pickf Z g68 rfl K<|G Z K<|U Z Z Z K<|U Z Z Z K<|U Z Z Z K<|o_pickf Z Z Z K<|S Z K<|o_nil<|h_ret<|ret1' Z (B_eq ?_)
            rw [formed_yes (by simp_all)]
            have hs1 : bareE e = _ := rfl
            simp only [someE, bareE] at *
            simp_all <;> (first | done | (simp [ceqs, ceq] at *; try omega))
          ·
           have g67 : _ = false := g67
           refine o_pickf Z g67 rfl K<|G Z K<|U Z Z Z K<|U Z Z Z K<|U Z Z Z K<|o_pickf Z Z Z K<|G Z K<|U Z Z Z K<|U Z Z Z K<|U Z Z Z K<|o_pickf Z Z Z K<|S Z K ?_
           refine o_nil<|h_ret<|ret1' Z (B_eq ?_)
           rw [formed_yes (by simp_all)]
           have hs1 : bareE e = _ := rfl
           simp only [someE, bareE] at *
           simp_all <;> (first | done | (simp [ceqs, ceq] at *; try omega))
     ·
      have g27 : _ = false := g27
      refine U Z Z g27 K<|U Z Z g27 K<|o_pickf Z g27 rfl K<|S Z K<|o_nil<|h_seq<|H<|F Z Z K K<|O 0 Z Z Z Z K<|o_call1 Z Z EntC.out K (rrange_spec _ _)<|G Z K<|o_guard Z Z K (fun g73 => ?_) (fun g73 => ?_)
      ·
       have g73 : _ = true := g73
       refine F Z Z K K<|W Z Z g73 K<|O 0 Z Z Z Z K<|W Z Z g73 K<|o_call1 Z Z EntC.out K (in42_spec _ _ _)<|o_pickt Z g73 rfl K<|S Z K<|o_nil<|h_seq<|h_seq<|H<|F Z Z K K ?_
       refine O 0 Z Z Z Z K<|o_nil<|h_block<|h_seq<|H<|o_cmp Z Z Z K<|S Z K<|o_nil<|h_cond Z (fun c76 => ?_) (fun c76 => ?_)
       ·
        refine h_seq<|H<|G Z K<|G Z K<|U Z Z Z K<|U Z Z Z K<|U Z Z Z K<|o_pickf Z Z Z K<|G Z K<|U Z Z Z K<|U Z Z Z K<|U Z Z Z K ?_
        refine U Z Z Z K<|U Z Z Z K<|o_pickf Z Z Z K<|S Z K<|o_nil<|h_ret<|ret1' Z (B_eq ?_)
        rw [formed_yes (by simp_all)]
        have hs1 : bareE e = _ := rfl
        simp only [someE, bareE] at *
        simp_all <;> (first | done | (simp [ceqs, ceq] at *; try omega))
       ·
        refine h_seq<|H<|o_cmp Z Z Z K<|S Z K<|o_nil<|h_cond Z (fun c78 => ?_) (fun c78 => ?_)
        ·
         refine h_seq<|H<|G Z K<|G Z K<|o_guard Z Z K (fun g79 => ?_) (fun g79 => ?_)
         ·
          have g79 : _ = true := g79
          refine F Z Z K K<|W Z Z g79 K<|O 0 Z Z Z Z K<|W Z Z g79 K<|o_cmp Z Z Z K<|o_pickt Z g79 rfl K<|G Z K<|o_guard Z Z K (fun g81 => ?_) (fun g81 => ?_)
          ·
           have g81 : _ = true := g81
           refine F Z Z K K<|W Z Z g81 K<|O 0 Z Z Z Z K<|W Z Z g81 K<|F Z Z K K<|W Z Z g81 K<|O 0 Z Z Z Z K<|W Z Z g81 K<|o_cmp Z Z Z K<|o_pickt Z g81 rfl K<|S Z K<|o_nil ?_
           refine h_ret<|ret1' Z (B_eq ?_)
           rw [formed_yes (by simp_all)]
           have hs1 : bareE e = _ := rfl
           simp only [someE, bareE] at *
           simp_all <;> (first | done | (simp [ceqs, ceq] at *; try omega))
          ·
           have g81 : _ = false := g81
           refine U Z Z g81 K<|U Z Z g81 K<|U Z Z g81 K<|U Z Z g81 K<|o_pickf Z g81 rfl K<|S Z K<|o_nil<|h_ret<|ret1' Z (B_eq ?_)
           rw [formed_yes (by simp_all)]
           have hs1 : bareE e = _ := rfl
           simp only [someE, bareE] at *
           simp_all <;> (first | done | (simp [ceqs, ceq] at *; try omega))
         ·
          have g79 : _ = false := g79
          refine U Z Z g79 K<|U Z Z g79 K<|o_pickf Z g79 rfl K<|G Z K<|U Z Z Z K<|U Z Z Z K<|U Z Z Z K<|U Z Z Z K<|U Z Z Z K<|o_pickf Z Z Z K<|S Z K<|o_nil ?_
          refine h_ret<|ret1' Z (B_eq ?_)
          rw [formed_yes (by simp_all)]
          have hs1 : bareE e = _ := rfl
          simp only [someE, bareE] at *
          simp_all <;> (first | done | (simp [ceqs, ceq] at *; try omega))
        ·
         refine h_seq<|H<|o_cmp Z Z Z K<|S Z K<|o_nil<|h_cond Z (fun c84 => ?_) (fun c84 => ?_)
         ·
          refine h_seq<|H<|G Z K<|G Z K<|o_guard Z Z K (fun g85 => ?_) (fun g85 => ?_)
          ·
           have g85 : _ = true := g85
           refine F Z Z K K<|W Z Z g85 K<|O 0 Z Z Z Z K<|W Z Z g85 K<|F Z Z K K<|W Z Z g85 K<|O 0 Z Z Z Z K<|W Z Z g85 K<|o_cmp Z Z Z K<|o_pickt Z g85 rfl K<|G Z K<|o_guard Z Z K (fun g87 => ?_) (fun g87 => ?_)
           ·
            have g87 : _ = true := g87
            refine F Z Z K K<|W Z Z g87 K<|O 0 Z Z Z Z K<|W Z Z g87 K<|F Z Z K K<|W Z Z g87 K<|O 0 Z Z Z Z K<|W Z Z g87 K<|o_cmp Z Z Z K<|o_pickt Z g87 rfl K<|S Z K<|o_nil ?_
            refine h_ret<|ret1' Z (B_eq ?_)
            rw [formed_yes (by simp_all)]
            have hs1 : bareE e = _ := rfl
            simp only [someE, bareE] at *
            simp_all <;> (first | done | (simp [ceqs, ceq] at *; try omega))
           ·
            have g87 : _ = false := g87
            refine U Z Z g87 K<|U Z Z g87 K<|U Z Z g87 K<|U Z Z g87 K<|o_pickf Z g87 rfl K<|S Z K<|o_nil<|h_ret<|ret1' Z (B_eq ?_)
            rw [formed_yes (by simp_all)]
            have hs1 : bareE e = _ := rfl
            simp only [someE, bareE] at *
            simp_all <;> (first | done | (simp [ceqs, ceq] at *; try omega))
          ·
           have g85 : _ = false := g85
           refine U Z Z g85 K<|U Z Z g85 K<|U Z Z g85 K<|U Z Z g85 K<|o_pickf Z g85 rfl K<|G Z K<|U Z Z Z K<|U Z Z Z K<|U Z Z Z K<|U Z Z Z K<|U Z Z Z K<|o_pickf Z Z Z K ?_
           refine S Z K<|o_nil<|h_ret<|ret1' Z (B_eq ?_)
           rw [formed_yes (by simp_all)]
           have hs1 : bareE e = _ := rfl
           simp only [someE, bareE] at *
           simp_all <;> (first | done | (simp [ceqs, ceq] at *; try omega))
         ·
          refine h_skip<|h_seq<|H<|F Z Z K K<|O 0 Z Z Z Z K<|o_cmp Z Z Z K<|G Z K<|o_guard Z Z K (fun g90 => ?_) (fun g90 => ?_)
          ·
           have g90 : _ = true := g90
           refine G Z K<|o_pickt Z g90 rfl K<|G Z K<|U Z Z Z K<|U Z Z Z K<|U Z Z Z K<|o_pickf Z Z Z K<|G Z K<|U Z Z Z K<|U Z Z Z K<|U Z Z Z K<|o_pickf Z Z Z K ?_
           refine S Z K<|o_nil<|h_ret<|ret1' Z (B_eq ?_)
           rw [formed_yes (by simp_all)]
           have hs1 : bareE e = _ := rfl
           simp only [someE, bareE] at *
           simp_all <;> (first | done | (simp [ceqs, ceq] at *; try omega))
          ·
           have g90 : _ = false := g90
           refine o_pickf Z g90 rfl K<|G Z K<|U Z Z Z K<|U Z Z Z K<|U Z Z Z K<|o_pickf Z Z Z K<|G Z K<|U Z Z Z K<|U Z Z Z K<|U Z Z Z K<|o_pickf Z Z Z K<|S Z K ?_
           refine o_nil<|h_ret<|ret1' Z (B_eq ?_)
           rw [formed_yes (by simp_all)]
           have hs1 : bareE e = _ := rfl
           simp only [someE, bareE] at *
           simp_all <;> (first | done | (simp [ceqs, ceq] at *; try omega))
      ·
       have g73 : _ = false := g73
       refine U Z Z g73 K<|U Z Z g73 K<|o_pickf Z g73 rfl K<|S Z K<|o_nil<|h_seq<|h_seq<|H<|F Z Z K K<|O 0 Z Z Z Z K<|o_nil<|h_block ?_
       refine h_seq<|H<|o_cmp Z Z Z K<|S Z K<|o_nil<|h_cond Z (fun c92 => ?_) (fun c92 => ?_)
       ·
        refine h_seq<|H<|G Z K<|G Z K<|U Z Z Z K<|U Z Z Z K<|U Z Z Z K<|o_pickf Z Z Z K<|G Z K<|U Z Z Z K<|U Z Z Z K<|U Z Z Z K ?_
        refine U Z Z Z K<|U Z Z Z K<|o_pickf Z Z Z K<|S Z K<|o_nil<|h_ret<|ret1' Z (B_eq ?_)
        rw [formed_yes (by simp_all)]
        have hs1 : bareE e = _ := rfl
        simp only [someE, bareE] at *
        simp_all <;> (first | done | (simp [ceqs, ceq] at *; try omega))
       ·
        refine h_seq<|H<|o_cmp Z Z Z K<|S Z K<|o_nil<|h_cond Z (fun c94 => ?_) (fun c94 => ?_)
        ·
         refine h_seq<|H<|G Z K<|G Z K<|U Z Z Z K<|U Z Z Z K<|U Z Z Z K<|o_pickf Z Z Z K<|G Z K<|U Z Z Z K<|U Z Z Z K<|U Z Z Z K ?_
         refine U Z Z Z K<|U Z Z Z K<|o_pickf Z Z Z K<|S Z K<|o_nil<|h_ret<|ret1' Z (B_eq ?_)
         rw [formed_yes (by simp_all)]
         have hs1 : bareE e = _ := rfl
         simp only [someE, bareE] at *
         simp_all <;> (first | done | (simp [ceqs, ceq] at *; try omega))
        ·
         refine h_seq<|H<|o_cmp Z Z Z K<|S Z K<|o_nil<|h_cond Z (fun c96 => ?_) (fun c96 => ?_)
         ·
          refine h_seq<|H<|G Z K<|G Z K<|U Z Z Z K<|U Z Z Z K<|U Z Z Z K<|U Z Z Z K<|U Z Z Z K<|o_pickf Z Z Z K<|G Z K<|U Z Z Z K ?_
          refine U Z Z Z K<|U Z Z Z K<|U Z Z Z K<|U Z Z Z K<|o_pickf Z Z Z K<|S Z K<|o_nil<|h_ret<|ret1' Z (B_eq ?_)
          rw [formed_yes (by simp_all)]
          have hs1 : bareE e = _ := rfl
          simp only [someE, bareE] at *
          simp_all <;> (first | done | (simp [ceqs, ceq] at *; try omega))
         ·
          refine h_skip<|h_seq<|H<|F Z Z K K<|O 0 Z Z Z Z K<|o_cmp Z Z Z K<|G Z K<|o_guard Z Z K (fun g98 => ?_) (fun g98 => ?_)
          ·
           have g98 : _ = true := g98
           refine G Z K<|o_pickt Z g98 rfl K<|G Z K<|U Z Z Z K<|U Z Z Z K<|U Z Z Z K<|o_pickf Z Z Z K<|G Z K<|U Z Z Z K<|U Z Z Z K<|U Z Z Z K<|o_pickf Z Z Z K ?_
           refine S Z K<|o_nil<|h_ret<|ret1' Z (B_eq ?_)
           rw [formed_yes (by simp_all)]
           have hs1 : bareE e = _ := rfl
           simp only [someE, bareE] at *
           simp_all <;> (first | done | (simp [ceqs, ceq] at *; try omega))
          ·
           have g98 : _ = false := g98
           refine o_pickf Z g98 rfl K<|G Z K<|U Z Z Z K<|U Z Z Z K<|U Z Z Z K<|o_pickf Z Z Z K<|G Z K<|U Z Z Z K<|U Z Z Z K<|U Z Z Z K<|o_pickf Z Z Z K<|S Z K ?_
           refine o_nil<|h_ret<|ret1' Z (B_eq ?_)
           rw [formed_yes (by simp_all)]
           have hs1 : bareE e = _ := rfl
           simp only [someE, bareE] at *
           simp_all <;> (first | done | (simp [ceqs, ceq] at *; try omega))
   ·
    have g23 : _ = true := g23
    refine U Z Z g23 K<|U Z Z g23 K<|U Z Z g23 K<|o_pickt Z g23 rfl K<|o_nil<|h_condt Z Z<|h_seq<|H<|S Z K<|o_nil<|h_ret<|ret1' Z (B_eq ?_)
    exact (formed_no (by simp_all)).symm
  ·
   have g21 : _ = true := g21
   refine U Z Z g21 K<|U Z Z g21 K<|U Z Z g21 K<|o_pickt Z g21 rfl K<|G Z K<|U Z Z Z K<|U Z Z Z K<|U Z Z Z K<|U Z Z Z K<|o_pickt Z Z Z K<|o_nil<|h_condt Z Z ?_
   refine h_seq<|H<|S Z K<|o_nil<|h_ret<|ret1' Z (B_eq ?_)
   exact (formed_no (by simp_all)).symm
 ·
  have g19 : _ = true := g19
  refine U Z Z g19 K<|U Z Z g19 K<|U Z Z g19 K<|o_pickt Z g19 rfl K<|G Z K<|U Z Z Z K<|U Z Z Z K<|U Z Z Z K<|U Z Z Z K<|o_pickt Z Z Z K<|G Z K<|U Z Z Z K ?_
  refine U Z Z Z K<|U Z Z Z K<|U Z Z Z K<|o_pickt Z Z Z K<|o_nil<|h_condt Z Z<|h_seq<|H<|S Z K<|o_nil<|h_ret<|ret1' Z (B_eq ?_)
  exact (formed_no (by simp_all)).symm

/-- What becomes of a block when a carrier is wound up: at most three pieces. -/
def addO (out : List Blk) (p : Int × Int × Int) : List Blk := if p.1 = p.2.1 then out else addR out p.1 p.2.1 p.2.2
def stepO (a b c f t : Int) (out : List Blk) (z : Blk) : List Blk :=
  addO (addO (addO out (z.f, max z.f (min f z.t), if z.c = a then c else z.c)) (max z.f (min f z.t), max z.f (min t z.t), if z.c = a then b else z.c)) (max z.f (min t z.t), z.t, if z.c = a then c else z.c)
def outsideM (l : List Blk) (a b c f t : Int) : List Blk := l.foldl (stepO a b c f t) []

end Go.Proofs.YtnoicbajhlpndaaGreat
/- The program's maps and the reference's: the same. -/
namespace Go.Proofs.YtnoicbajhlpndaaGreat
open Go Go.RowKit Go.Shelf Hp
set_option maxRecDepth 10000
set_option maxHeartbeats 1000000
set_option linter.unusedVariables false
set_option linter.unusedSimpArgs false
attribute [local irreducible] WP WPs FnX IterX YdX RetP PanP Ch Back Join
theorem fits_valid {l : List Blk} (h : Can 0 (-1) l) : validB l = decide (l.length ≤ 40) := by
  by_cases hl : l.length ≤ 40
  · rw [can_valid h hl, decide_eq_true hl]
  · rw [decide_eq_false hl]
    cases hv : validB l with
    | false => rfl
    | true => exact absurd (valid_len hv) hl
/-- The two combines return the same, where they ask the same. -/
theorem combR_combM {hol : Int → Int → Int} {a b : List Blk} {way fr to : Int} (ha : Can 0 (-1) a) (hb : Can 0 (-1) b) (ht : fr < 0 ∨ (0 ≤ to ∧ to ≤ 7))
    (hr : ∀ x y, (x = -1 ∨ (0 ≤ x ∧ x ≤ 7)) → (y = -1 ∨ (0 ≤ y ∧ y ≤ 7)) → hol x y = -1 ∨ (0 ≤ hol x y ∧ hol x y ≤ 7))
    (he : ∀ x y, (x = -1 ∨ (0 ≤ x ∧ x ≤ 7)) → (y = -1 ∨ (0 ≤ y ∧ y ≤ 7)) → (b = [] → y = -1) → x3M way fr to x y = hol x y) : combR a b way fr to = combM a b hol := by
  obtain ⟨h1, h2⟩ := outR_spec (way := way) ha hb ht
  have hc := comb_can ha hb hr
  have e : outR a b way fr to (edgesM a b) ((edgesM a b).length - 1) = combOut a b hol := can_eq h1 hc fun m m0 m1 => by
    rw [h2 m m0 m1, comb_hd ha hb m0 m1]; exact he _ _ (hd_rng ha) (hd_rng hb) (by rintro rfl; rfl)
  unfold combR combM
  rw [e, rvalid_eq, fits_valid hc]
  by_cases hl : (combOut a b hol).length ≤ 40
  · rw [if_pos (decide_eq_true hl), if_neg (by omega)]
  · rw [if_neg (by simpa using hl), if_pos (by omega)]
theorem onlyR_eq (l : List Blk) (f t : Int) : onlyR l f t = onlyB l f t := by
  unfold onlyR onlyB
  rw [rvalid_eq]
  by_cases h : (validB l && rangeOk f t) = true
  · have h' := h
    simp only [Bool.and_eq_true] at h'
    rw [if_neg (by rw [h]; simp), if_neg (by simp [h'.1, h'.2])]
    refine combR_combM (valid_can h'.1) (can_one h'.2) (.inl (by omega)) only_rng fun x y hx hy _ => ?_
    have h1 : x1M 2 x y = if y < 0 then y else x := by
      unfold x1M; by_cases h : y < 0
      · rw [if_pos (by omega), if_pos h]
      · rw [if_neg (by omega), if_neg h]
    have h2 : x2M 2 x y = x1M 2 x y := by unfold x2M; rw [if_neg (by omega)]
    unfold x3M onlyM; rw [if_neg (by omega), h2, h1]
    split <;> split <;> omega
  · simp only [Bool.not_eq_true] at h
    rw [if_pos h, if_pos (by simp only [Bool.and_eq_false_iff] at h; rcases h with h | h <;> simp [h])]
theorem overR_eq (a b : List Blk) : overR a b = overlayB a b := by
  unfold overR overlayB
  rw [rvalid_eq, rvalid_eq]
  by_cases h : (validB a && validB b) = true
  · have h' := h
    simp only [Bool.and_eq_true] at h'
    rw [if_neg (by rw [h]; simp), if_neg (by simp [h'.1, h'.2])]
    refine combR_combM (valid_can h'.1) (valid_can h'.2) (.inl (by omega)) over_rng fun x y hx hy _ => ?_
    rw [x3_give]; unfold overM
    split <;> split <;> omega
  · simp only [Bool.not_eq_true] at h
    rw [if_pos h, if_pos (by simp only [Bool.and_eq_false_iff] at h; rcases h with h | h <;> simp [h])]
theorem swapR_eq (l : List Blk) (f t : Int) : swapR l f t = swapB l f t := by
  unfold swapR swapB
  rw [rvalid_eq]
  by_cases h : (validB l && carOk f && carOk t) = true
  · have h' := h
    simp only [Bool.and_eq_true] at h'
    have hf := carOk_iff.1 h'.1.2
    have ht := carOk_iff.1 h'.2
    rw [if_neg (by rw [h]; simp), if_neg (by simp [h'.1.1, h'.1.2, h'.2])]
    refine combR_combM (b := []) (valid_can h'.1.1) trivial (.inr ht) (swap_rng ht) fun x y hx hy hb => ?_
    have := hb rfl
    subst this
    rw [x3_swap f t x hf.1 (by omega)]; rfl
  · simp only [Bool.not_eq_true] at h
    rw [if_pos h, if_pos (by simp only [Bool.and_eq_false_iff] at h; rcases h with (h | h) | h <;> simp [h])]
/-! ### a part of a map -/
theorem can_low {e e' c c' : Int} (h : e < e') : ∀ {l : List Blk}, Can e' c' l → Can e c l
  | [], _ => trivial
  | b :: r, ⟨g1, g2, g3, g4, g5, g6, g7⟩ => ⟨by omega, g2, g3, g4, g5, by omega, g7⟩
def clipB (f t : Int) : List Blk → List Blk
  | [] => []
  | b :: r => if max f b.f < min t b.t then ⟨max f b.f, min t b.t, b.c⟩ :: clipB f t r else clipB f t r
theorem clip_len (f t : Int) : ∀ l : List Blk, (clipB f t l).length ≤ l.length
  | [] => by simp [clipB]
  | b :: r => by have := clip_len f t r; simp only [clipB]; split <;> simp <;> omega
theorem clip_can (f t : Int) : ∀ {l : List Blk} {e c : Int}, Can e c l → Can e c (clipB f t l)
  | [], _, _, _ => trivial
  | b :: r, e, c, ⟨g1, g2, g3, g4, g5, g6, g7⟩ => by
    have ih := clip_can f t g7
    simp only [clipB]
    split
    · rename_i h
      refine ⟨by dsimp only; omega, h, by dsimp only; omega, g4, g5, by dsimp only; omega, ?_⟩
      dsimp only
      by_cases ht : t < b.t
      · rw [show min t b.t = t by omega]; exact can_low ht ih
      · rw [show min t b.t = b.t by omega]; exact ih
    · exact can_low (by omega) ih
theorem clip_hd {f t m : Int} : ∀ {l : List Blk} {e c : Int}, Can e c l → hd m (clipB f t l) = if f ≤ m ∧ m < t then hd m l else -1
  | [], _, _, _ => by simp [clipB, hd]
  | b :: r, e, c, ⟨g1, g2, g3, g4, g5, g6, g7⟩ => by
    have ih := clip_hd (f := f) (t := t) (m := m) g7
    have hl : m < b.t → hd m (clipB f t r) = -1 := fun h => hd_lt (clip_can f t g7) h
    simp only [clipB]
    by_cases c1 : b.t ≤ m
    · have e1 : hd m (b :: r) = hd m r := by simp only [hd]; rw [if_pos c1]
      rw [e1]
      split
      · simp only [hd]; rw [if_pos (by omega)]; exact ih
      · exact ih
    · by_cases c2 : m < b.f
      · have e1 : hd m (b :: r) = -1 := by simp only [hd]; rw [if_neg c1, if_pos c2]
        rw [e1]
        split
        · simp only [hd]; rw [if_neg (by omega), if_pos (by omega)]; split <;> rfl
        · rw [hl (by omega)]; split <;> rfl
      · have e1 : hd m (b :: r) = b.c := by simp only [hd]; rw [if_neg c1, if_neg c2]
        rw [e1]
        split
        · simp only [hd]
          by_cases h3 : min t b.t ≤ m
          · rw [if_pos h3, hl (by omega), if_neg (by omega)]
          · rw [if_neg h3]
            by_cases h4 : m < max f b.f
            · rw [if_pos h4, if_neg (by omega)]
            · rw [if_neg h4, if_pos (by omega)]
        · rw [hl (by omega), if_neg (by omega)]
/-- A part of a map: it always fits. -/
theorem only_clip {l : List Blk} {f t : Int} (hv : validB l = true) (hr : rangeOk f t = true) : onlyB l f t = (clipB f t l, 0) := by
  have hr' := hr
  simp only [rangeOk, decide_eq_true_eq] at hr'
  have hc := valid_can hv
  have e : combOut l [⟨f, t, 0⟩] onlyM = clipB f t l := can_eq (comb_can hc (can_one hr) only_rng) (clip_can f t hc) fun m m0 m1 => by
    rw [comb_hd hc (can_one hr) m0 m1, clip_hd hc, hd_one f t hr'.2.1]
    unfold onlyM; split <;> simp
  have hl := clip_len f t l
  have := valid_len hv
  unfold onlyB combM
  rw [if_neg (by simp [hv, hr]), e, if_neg (by omega)]
theorem clip_all {l : List Blk} (h : Can 0 (-1) l) : clipB 0 100000000 l = l :=
  can_eq (clip_can _ _ h) h fun m m0 m1 => by rw [clip_hd h, if_pos ⟨m0, m1⟩]
theorem only_valid {l : List Blk} {f t : Int} (hv : validB l = true) : validB (clipB f t l) = true := can_valid (clip_can f t (valid_can hv)) (by have := clip_len f t l; have := valid_len hv; omega)
theorem swap_all {l : List Blk} (hv : validB l = true) {f t : Int} (hf : 0 ≤ f ∧ f ≤ 7) (ht : 0 ≤ t ∧ t ≤ 7) : (swapB l f t).2 = 0 ∧ Mp (swapB l f t).1 40 := swap_ok (mp_of hv) (Nat.le_refl _) hf ht
/-- All numbers of a carrier go to another one. -/
theorem hand_all {l : List Blk} (hv : validB l = true) {f t : Int} (hf : 0 ≤ f ∧ f ≤ 7) (ht : 0 ≤ t ∧ t ≤ 7) : handM l f t 0 100000000 = ((swapB l f t).1, true) := by
  have hc := valid_can hv
  have e1 := only_clip (f := 0) (t := 100000000) hv dQ
  rw [clip_all hc] at e1
  obtain ⟨s1, s2⟩ := swap_all hv hf ht
  obtain ⟨_, _, q2⟩ := swap_hd (l := l) (f := f) (t := t) (by simp [s1])
  unfold handM
  simp only [onlyR_eq, overR_eq, swapR_eq, e1]
  have e : combOut l (swapB l f t).1 overM = (swapB l f t).1 := can_eq (comb_can hc s2.can over_rng) s2.can fun m m0 m1 => by
    rw [comb_hd hc s2.can m0 m1, q2 m m0 m1]
    have := hd_rng (m := m) hc
    unfold overM
    split <;> split <;> omega
  have e2 : overlayB l (swapB l f t).1 = ((swapB l f t).1, 0) := by
    have := s2.len
    unfold overlayB combM
    rw [if_neg (by simp [hv, s2.valid]), e, if_neg (by omega)]
  rw [e2]
  simp [s1]
/-! ### winding up -/
theorem addO_step {n n' x : Int} {out : List Blk} (h0 : 0 ≤ n) (hn : n ≤ n') (hm : n' ≤ 100000000) (hx : 0 ≤ x ∧ x ≤ 7) (ha : Asc n out) (hr : Run n out) :
    Asc n' (addO out (n, n', x)) ∧ Run n' (addO out (n, n', x)) ∧ ∀ m, hd m (addO out (n, n', x)) = if n ≤ m ∧ m < n' then x else hd m out := by
  unfold addO
  by_cases he : n = n'
  · subst he
    rw [if_pos rfl]
    exact ⟨ha, hr, fun m => by rw [if_neg (by omega)]⟩
  · rw [if_neg he, addR_addP (.inr hx.1)]
    obtain ⟨s1, s2⟩ := addP_step (hol := fun p _ => p) (x := x) (y := 0) (show n < n' by omega) ha
    exact ⟨s1, addP_can (hol := fun p _ => p) h0 (by omega) hm (.inr hx) hr, s2⟩
theorem asc_mono {n n' : Int} {out : List Blk} (h : n ≤ n') (ha : Asc n out) : Asc n' out := by
  obtain h1 | ⟨l, z, h0, h1, h2, h3⟩ := ha
  · exact .inl h1
  · exact .inr ⟨l, z, h0, h1, h2, by omega⟩
theorem run_mono {n n' : Int} {out : List Blk} (h : n ≤ n') (ha : Run n out) : Run n' out := ⟨ha.1, Int.le_trans ha.2 h⟩
/-- What becomes of a number when a carrier is wound up. -/
def windHol (a b c f t m x : Int) : Int := if x = a then (if f ≤ m ∧ m < t then b else c) else x
def windX (a b c f t m x : Int) : Int := if x = -1 then -1 else windHol a b c f t m x
theorem outside_step {z : Blk} {a b c f t : Int} {out : List Blk} (h0 : 0 ≤ z.f) (hz : z.f < z.t) (h9 : z.t ≤ 100000000) (hzc : 0 ≤ z.c ∧ z.c ≤ 7) (hb : 0 ≤ b ∧ b ≤ 7) (hc : 0 ≤ c ∧ c ≤ 7) (hft : f < t) (ha : Asc z.f out) (hr : Run z.f out) :
    Asc z.t (stepO a b c f t out z) ∧ Run z.t (stepO a b c f t out z) ∧ ∀ m, hd m (stepO a b c f t out z) = if z.f ≤ m ∧ m < z.t then windHol a b c f t m z.c else hd m out := by
  have k1 : ∀ x : Int, 0 ≤ x ∧ x ≤ 7 → 0 ≤ (if z.c = a then x else z.c) ∧ (if z.c = a then x else z.c) ≤ 7 := fun x hx => by split <;> assumption
  obtain ⟨a1, r1, s1⟩ := addO_step (n' := max z.f (min f z.t)) (x := if z.c = a then c else z.c) h0 (by omega) (by omega) (k1 c hc) ha hr
  obtain ⟨a2, r2, s2⟩ := addO_step (n' := max z.f (min t z.t)) (x := if z.c = a then b else z.c) (by omega) (by omega) (by omega) (k1 b hb) a1 r1
  obtain ⟨a3, r3, s3⟩ := addO_step (n' := z.t) (x := if z.c = a then c else z.c) (by omega) (by omega) (by omega) (k1 c hc) a2 r2
  refine ⟨a3, r3, fun m => ?_⟩
  show hd m (addO (addO (addO out _) _) _) = _
  rw [s3 m, s2 m, s1 m]
  unfold windHol
  by_cases hin : z.f ≤ m ∧ m < z.t
  · rw [if_pos hin]
    by_cases h3 : max z.f (min t z.t) ≤ m
    · rw [if_pos ⟨h3, hin.2⟩, if_neg (show ¬(f ≤ m ∧ m < t) by omega)]
    · rw [if_neg (show ¬(max z.f (min t z.t) ≤ m ∧ m < z.t) by omega)]
      by_cases h2 : max z.f (min f z.t) ≤ m
      · rw [if_pos (show max z.f (min f z.t) ≤ m ∧ m < max z.f (min t z.t) by omega), if_pos (show f ≤ m ∧ m < t by omega)]
      · rw [if_neg (show ¬(max z.f (min f z.t) ≤ m ∧ m < max z.f (min t z.t)) by omega), if_pos (show z.f ≤ m ∧ m < max z.f (min f z.t) by omega), if_neg (show ¬(f ≤ m ∧ m < t) by omega)]
  · rw [if_neg hin, if_neg (by omega), if_neg (by omega), if_neg (by omega)]
theorem outside_fold {a b c f t : Int} (hb : 0 ≤ b ∧ b ≤ 7) (hc : 0 ≤ c ∧ c ≤ 7) (hft : f < t) : ∀ {l : List Blk} {e cc : Int} {out : List Blk}, 0 ≤ e → Can e cc l → Asc e out → Run e out →
    Can 0 (-1) (l.foldl (stepO a b c f t) out) ∧ ∀ m, hd m (l.foldl (stepO a b c f t) out) = if e ≤ m then windX a b c f t m (hd m l) else hd m out
  | [], e, cc, out, h0, _, ha, hr => ⟨hr.1, fun m => by
    simp only [List.foldl_nil, hd]
    split
    · exact asc_out ha (by omega)
    · rfl⟩
  | z :: r, e, cc, out, h0, ⟨g1, g2, g3, g4, g5, g6, g7⟩, ha, hr => by
    obtain ⟨s1, s2, s3⟩ := outside_step (a := a) (z := z) (by omega) g2 g3 ⟨g4, g5⟩ hb hc hft (asc_mono g1 ha) (run_mono g1 hr)
    obtain ⟨i1, i2⟩ := outside_fold hb hc hft (by omega) g7 s1 s2
    refine ⟨by rw [List.foldl_cons]; exact i1, fun m => ?_⟩
    rw [List.foldl_cons, i2 m, s3 m]
    by_cases h1 : z.t ≤ m
    · have e1 : hd m (z :: r) = hd m r := by simp only [hd]; rw [if_pos h1]
      rw [if_pos h1, if_pos (show e ≤ m by omega), e1]
    · rw [if_neg h1]
      by_cases h2 : z.f ≤ m
      · have e1 : hd m (z :: r) = z.c := by simp only [hd]; rw [if_neg h1, if_neg (by omega)]
        rw [if_pos (show z.f ≤ m ∧ m < z.t by omega), if_pos (show e ≤ m by omega), e1, windX, if_neg (by omega)]
      · rw [if_neg (show ¬(z.f ≤ m ∧ m < z.t) by omega)]
        have e1 : hd m (z :: r) = -1 := by simp only [hd]; rw [if_neg h1, if_pos (by omega)]
        by_cases h3 : e ≤ m
        · rw [if_pos h3, e1, asc_out ha h3]; rfl
        · rw [if_neg h3]
theorem outside_spec {l : List Blk} {a b c f t : Int} (hv : Can 0 (-1) l) (hb : 0 ≤ b ∧ b ≤ 7) (hc : 0 ≤ c ∧ c ≤ 7) (hft : f < t) :
    Can 0 (-1) (outsideM l a b c f t) ∧ ∀ m, 0 ≤ m → hd m (outsideM l a b c f t) = windX a b c f t m (hd m l) := by
  obtain ⟨h1, h2⟩ := outside_fold (a := a) hb hc hft (Int.le_refl 0) hv (.inl rfl) ⟨trivial, by simp [endC]⟩
  exact ⟨h1, fun m m0 => by have := h2 m; rw [if_pos m0] at this; exact this⟩
/-- Winding up, in the program's way and in the reference's. -/
theorem wind_outside {l : List Blk} {a b c f t : Int} (hv : validB l = true) (hr : rangeOk f t = true) (ha : 0 ≤ a ∧ a ≤ 7) (hb : 0 ≤ b ∧ b ≤ 7) (hc : 0 ≤ c ∧ c ≤ 7) :
    (onlyB l f t).2 = 0 ∧ (swapB (onlyB l f t).1 a b).2 = 0 ∧ (swapB l a c).2 = 0 ∧
    overlayB (swapB l a c).1 (swapB (onlyB l f t).1 a b).1 = if rvalid (outsideM l a b c f t) then (outsideM l a b c f t, 0) else ([], 130) := by
  have hr' := hr
  simp only [rangeOk, decide_eq_true_eq] at hr'
  have hcn := valid_can hv
  have e1 := only_clip hv hr
  rw [e1]
  obtain ⟨s1, s2⟩ := swap_all (only_valid (f := f) (t := t) hv) ha hb
  obtain ⟨s3, s4⟩ := swap_all hv ha hc
  obtain ⟨_, _, q1⟩ := swap_hd (l := clipB f t l) (f := a) (t := b) (by simp [s1])
  obtain ⟨_, _, q2⟩ := swap_hd (l := l) (f := a) (t := c) (by simp [s3])
  obtain ⟨o1, o2⟩ := outside_spec (a := a) hcn hb hc hr'.2.1
  refine ⟨rfl, s1, s3, ?_⟩
  have e : combOut (swapB l a c).1 (swapB (clipB f t l) a b).1 overM = outsideM l a b c f t := can_eq (comb_can s4.can s2.can over_rng) o1 fun m m0 m1 => by
    rw [comb_hd s4.can s2.can m0 m1, q1 m m0 m1, q2 m m0 m1, o2 m m0, clip_hd hcn]
    have hrg := hd_rng (m := m) hcn
    unfold overM windX windHol
    by_cases hin : f ≤ m ∧ m < t
    · simp only [hin, and_self, if_true]
      by_cases h1 : hd m l = a
      · simp only [h1, if_true]; rw [if_neg (by omega), if_neg (by omega)]
      · simp only [h1, if_false]; split <;> simp_all
    · simp only [hin, if_false]
      rw [if_neg (show ¬ (-1 : Int) = a by omega), if_pos rfl]
      by_cases h1 : hd m l = a
      · simp only [h1, if_true]; rw [if_neg (by omega)]
      · simp only [h1, if_false]; split <;> simp_all
  unfold overlayB combM
  rw [if_neg (by simp [s2.valid, s4.valid]), e, rvalid_eq, fits_valid o1]
  by_cases hl : (outsideM l a b c f t).length ≤ 40
  · rw [if_neg (by omega), if_pos (decide_eq_true hl)]
  · rw [if_pos (by omega), if_neg (by simpa using hl)]
end Go.Proofs.YtnoicbajhlpndaaGreat
/- The walk of the reference's Valid (worlds). -/
namespace Go.Proofs.YtnoicbajhlpndaaGreat
open Go Go.RowKit Go.Shelf Hp
set_option maxRecDepth 10000
set_option maxHeartbeats 1000000
set_option linter.unusedVariables false
set_option linter.unusedSimpArgs false
attribute [local irreducible] WP WPs FnX IterX YdX RetP PanP Ch Back Join
def rdead (w : Wd) (k : Nat) : Bool := !bitM w.alive (w.blocks.getD k dB).c
def rbadL (w : Wd) (k : Nat) : Bool := !inR (w.bal.getD k 0) (-1000000000000) 1000000000000 || !inR (w.lev.getD k 0) 0 9 || (!bitM w.alive k && (decide (w.bal.getD k 0 ≠ 0) || decide (w.lev.getD k 0 ≠ 0)))
def rleast (w : Wd) : Nat → Int
  | 0 => 9
  | k + 1 => if bitM w.alive k then min (rleast w k) (w.lev.getD k 0) else rleast w k
def rmost (w : Wd) : Nat → Int
  | 0 => 0
  | k + 1 => if bitM w.alive k then max (rmost w k) (w.lev.getD k 0) else rmost w k
def rhead (w : Wd) : Bool := inR w.alive 0 255 && inR w.ever 0 255 && decide (bits64 .andNot w.alive w.ever = 0) && rvalid w.blocks && decide ((w.bal.length : Int) = 8) && decide ((w.lev.length : Int) = 8)
def rvalidW (w : Wd) : Bool := rhead w && !(List.range w.blocks.length).any (rdead w) && !(List.range 8).any (rbadL w) && decide (sumTo w 8 = 0) && (decide (w.alive = 0) || decide (rmost w 8 - rleast w 8 ≤ 1))
theorem rv_a {w : Wd} (h : rhead w = false) : rvalidW w = false := by simp [rvalidW, h]
theorem rv_b {w : Wd} {k : Nat} (hk : k < w.blocks.length) (h : rdead w k = true) : rvalidW w = false := by
  have : (List.range w.blocks.length).any (rdead w) = true := List.any_eq_true.2 ⟨k, List.mem_range.2 hk, h⟩
  simp only [rvalidW, this]; simp
theorem rv_c {w : Wd} {k : Nat} (hk : k < 8) (h : rbadL w k = true) : rvalidW w = false := by
  have : (List.range 8).any (rbadL w) = true := List.any_eq_true.2 ⟨k, List.mem_range.2 hk, h⟩
  simp only [rvalidW, this]; simp
theorem any_no {p : Nat → Bool} {n : Nat} (h : ∀ j, j < n → p j = false) : (List.range n).any p = false := by
  rw [List.any_eq_false]; intro j hj; rw [h j (List.mem_range.1 hj)]; simp
theorem rv_d {w : Wd} (h : rhead w = true) (h1 : ∀ j, j < w.blocks.length → rdead w j = false) (h2 : ∀ j, j < 8 → rbadL w j = false) : rvalidW w = (decide (sumTo w 8 = 0) && (decide (w.alive = 0) || decide (rmost w 8 - rleast w 8 ≤ 1))) := by
  simp only [rvalidW, h, any_no h1, any_no h2]; simp
theorem rbal_bd {w : Wd} {k : Nat} (h : rbadL w k = false) : (-1000000000000 ≤ w.bal.getD k 0 ∧ w.bal.getD k 0 ≤ 1000000000000) ∧ 0 ≤ w.lev.getD k 0 ∧ w.lev.getD k 0 ≤ 9 := by
  simp only [rbadL, inR, Bool.or_eq_false_iff, Bool.not_eq_false', Bool.and_eq_true, decide_eq_true_eq] at h
  omega
theorem rsum_bd {w : Wd} : ∀ k, (∀ j, j < k → rbadL w j = false) → -(k : Int) * 1000000000000 ≤ sumTo w k ∧ sumTo w k ≤ k * 1000000000000
  | 0, _ => by simp [sumTo]
  | k + 1, h => by
    have h1 := rsum_bd k fun j hj => h j (by omega)
    have h2 := rbal_bd (h k (by omega))
    simp only [sumTo]; omega
theorem rlm_bd {w : Wd} : ∀ k, (∀ j, j < k → rbadL w j = false) → (0 ≤ rleast w k ∧ rleast w k ≤ 9) ∧ 0 ≤ rmost w k ∧ rmost w k ≤ 9
  | 0, _ => by simp [rleast, rmost]
  | k + 1, h => by
    have h1 := rlm_bd k fun j hj => h j (by omega)
    have h2 := rbal_bd (h k (by omega))
    simp only [rleast, rmost]; split <;> omega
theorem rcar {w : Wd} (h : rvalid w.blocks = true) {k : Nat} (hk : k < w.blocks.length) : 0 ≤ (w.blocks.getD k dB).c ∧ (w.blocks.getD k dB).c ≤ 63 := by
  rw [rvalid_eq] at h
  have := can_car (valid_can h) (w.blocks.getD k dB) (by rw [List.getD_eq_getElem?_getD, List.getElem?_eq_getElem hk]; exact List.getElem_mem hk)
  omega

theorem rvalidW_spec (w : Wd) (hbs : w.blocks.length ≤ 1000000000) (f1 f2 f3 : Bool) : Fn1 Tryz.prog 19 [encW w f1 f2 f3] (B (rvalidW w)) := by
 refine fnE_intro (N := 133) Tryz.func19 rfl rfl rfl ?_
 intro X
 refine h_seq<|H<|o_box Z Z K fun x1 => S Z K<|o_nil<|h_seq<|h_seq<|H<|F Z Z K K<|O 0 Z Z Z Z K<|o_call1 Z Z EntC.out K (in42_spec _ _ _)<|o_not Z K ?_
 refine G Z K<|o_guard Z Z K (fun g3 => ?_) (fun g3 => ?_)
 ·
  have g3 : _ = false := g3
  refine F Z Z K K<|W Z Z g3 K<|O 0 Z Z Z Z K<|W Z Z g3 K<|o_call1 Z Z EntC.out K (in42_spec _ _ _)<|W Z Z g3 K<|o_not Z K<|o_pickf Z g3 rfl K<|G Z K<|o_guard Z Z K (fun g5 => ?_) (fun g5 => ?_)
  ·
   have g5 : _ = false := g5
   refine F Z Z K K<|W Z Z g5 K<|O 0 Z Z Z Z K<|W Z Z g5 K<|F Z Z K K<|W Z Z g5 K<|O 0 Z Z Z Z K<|W Z Z g5 K<|o_bits K rfl rfl K<|W Z Z g5 K<|o_cmp Z Z Z K<|o_pickf Z g5 rfl K ?_
   refine G Z K<|o_guard Z Z K (fun g7 => ?_) (fun g7 => ?_)
   ·
    have g7 : _ = false := g7
    refine F Z Z K K<|W Z Z g7 K<|O 0 Z Z Z Z K<|W Z Z g7 K<|o_call1 Z Z EntC.out K (rvalid_spec w.blocks hbs _)<|W Z Z g7 K<|o_not Z K<|o_pickf Z g7 rfl K<|G Z K<|o_guard Z Z K (fun g9 => ?_) (fun g9 => ?_)
    ·
     have g9 : _ = false := g9
     refine F Z Z K K<|W Z Z g9 K<|O 0 Z Z Z Z K<|W Z Z g9 K<|o_len Z K<|W Z Z g9 K<|o_cmp Z Z Z K<|o_pickf Z g9 rfl K<|G Z K<|o_guard Z Z K (fun g11 => ?_) (fun g11 => ?_)
     ·
      have g11 : _ = false := g11
      refine F Z Z K K<|W Z Z g11 K<|O 0 Z Z Z Z K<|W Z Z g11 K<|o_len Z K<|W Z Z g11 K<|o_cmp Z Z Z K<|o_pickf Z g11 rfl K<|o_nil<|h_cond Z (fun c13 => ?_) (fun c13 => ?_)
      ·
       refine h_seq<|H<|S Z K<|o_nil<|h_ret<|ret1' Z (B_eq ?_)
       exact (rv_a (by simp only [rhead]; simp_all)).symm
      ·
       refine h_skip<|h_seq<|h_seq<|H<|S Z K<|o_nil<|h_block ?_
       have hrh : rhead w = true := by simp only [rhead]; simp_all
       have hrb : rvalid w.blocks = true := by simp only [rhead, Bool.and_eq_true] at hrh; exact hrh.1.1.2
       have hbl := rvalid_len hrb
       have hb8 : w.bal.length = 8 := by simp only [rhead, Bool.and_eq_true, decide_eq_true_eq] at hrh; omega
       have hl8 : w.lev.length = 8 := by simp only [rhead, Bool.and_eq_true, decide_eq_true_eq] at hrh; omega
       refine h_famS (ι := {k : Nat // k ≤ (w.blocks).length ∧ ∀ j, j < k → rdead w j = false}) (fun i => [(1, .ptr x1 0), (3, I (i.1 : Nat))]) (fun i => (x1, .box 32 (cellsW w f1 f2 f3)) :: []) (fun i => (w.blocks).length - i.1) ⟨0, Nat.zero_le _, fun j hj => absurd hj (Nat.not_lt_zero j)⟩ (.cons_cons _ (.refl _)) (subT.cons Z (subT.cons Z subT.nil)) ?_
       rintro ⟨k, hk, hok⟩
       dsimp only
       by_cases hlt : k < (w.blocks).length
       ·
        refine h_seq<|h_seq<|H<|G Z K<|F Z Z K K<|O 0 Z Z Z Z K<|o_len Z K<|o_cmp Z Z Z K<|o_nil<|h_condt Z (by simp; omega) ?_
        refine h_skip<|h_seq<|h_block<|h_seq<|h_draw _ (List.nil_sublist _) [(0, .flo), (1, .val), (2, .flo), (3, .val), (4, .flo), (5, .flo), (6, .flo), (7, .val), (8, .bar), (9, .bar)] mixed (by kernel_rfl)<|C Z Z (fun jj => F Z Z K K jj)<|c_val Z Z (fun _ _ _ _ jj => O 0 Z Z Z Z K jj)<|C Z Z (fun jj => F Z Z K K jj)<|c_val Z Z (fun _ _ _ _ jj => O 0 Z Z Z Z K jj)<|C Z Z (fun jj => G Z K jj)<|C Z Z (fun jj => o_idxv Z Z (by omega) (eltBk (by simpa using hlt)) rfl K jj) ?_
        refine C Z Z (fun jj => o_faddrv Z Z K rfl K jj)<|c_val Z Z (fun _ _ _ _ jj => o_loadv Z Z K jj)<|c_bar<|o_call1 Z Z EntC.out K (bit42_spec _ _ (rcar hrb (by simpa using hlt)).1 (rcar hrb (by simpa using hlt)).2) ?_
        refine o_not Z K<|o_nil<|h_cond Z (fun c16 => ?_) (fun c16 => ?_)
        ·
         refine h_seq<|H<|S Z K<|o_nil<|h_ret<|ret1' Z (B_eq ?_)
         exact (rv_b (k := k) hlt (show (!bitM w.alive (w.blocks.getD ((k : Nat) : Int).toNat dB).c) = true from c16)).symm
        ·
         refine h_skip<|H<|G Z K<|o_add Z Z (by unfold in64; (try dsimp only); omega) K ?_
         refine S Z K<|o_nil ?_
         have hbad : rdead w k = false := (show (!bitM w.alive (w.blocks.getD ((k : Nat) : Int).toNat dB).c) = false from c16)
         refine back rfl ⟨k + 1, hlt, fun j hj => (by rcases Nat.lt_succ_iff_lt_or_eq.1 hj with h1 | h1; exact hok j h1; subst h1; exact hbad)⟩ (by dsimp only; omega) (.cons_cons _ (.refl _)) (subT.cons Z (subT.cons Z subT.nil))
       ·
        obtain rfl : k = (w.blocks).length := by omega
        refine h_seq<|h_seq<|H<|G Z K<|F Z Z K K<|O 0 Z Z Z Z K<|o_len Z K<|o_cmp Z Z Z K<|o_nil<|h_condf Z (by simp <;> omega) ?_
        refine h_exit<|h_seq<|H<|S Z K<|o_nil<|h_seq<|H<|S Z K<|o_nil<|h_seq<|H<|S Z K ?_
        refine o_nil<|h_seq<|h_seq<|H<|S Z K<|o_nil<|h_block ?_
        have hok0 := hok
        refine h_famS (ι := {q : Nat // q ≤ 8 ∧ ∀ j, j < q → rbadL w j = false}) (fun i => [(1, .ptr x1 0), (4, I (sumTo w i.1)), (5, I (rleast w i.1)), (6, I (rmost w i.1)), (7, I (i.1 : Nat))]) (fun i => (x1, .box 32 (cellsW w f1 f2 f3)) :: []) (fun i => 8 - i.1) ⟨0, Nat.zero_le _, fun j hj => absurd hj (Nat.not_lt_zero j)⟩ (.cons_cons _ (.refl _)) (subT.cons Z (subT.cons Z (subT.cons Z (subT.cons Z (subT.cons Z subT.nil))))) ?_
        rintro ⟨q, hq, hq2⟩
        dsimp only
        by_cases hlt : q < 8
        ·
         have hsb := rsum_bd q hq2
         refine h_seq<|h_seq<|H<|G Z K<|o_cmp Z Z Z K<|o_nil<|h_condt Z (by simp; omega) ?_
         refine h_skip<|h_seq<|h_block<|h_seq<|h_seq<|H<|F Z Z K K<|O 0 Z Z Z Z K<|G Z K<|o_idxv Z Z (by omega) (eltIn (by simp only [Int.toNat_natCast]; omega)) rfl K ?_
         refine o_loadv Z Z K<|o_call1 Z Z EntC.out K (in42_spec _ _ _)<|o_not Z K<|G Z K<|o_guard Z Z K (fun g20 => ?_) (fun g20 => ?_)
         ·
          have g20 : _ = false := g20
          refine F Z Z K K<|W Z Z g20 K<|O 0 Z Z Z Z K<|W Z Z g20 K<|G Z K<|W Z Z g20 K<|o_idxv Z Z (by omega) (eltIn (by simp only [Int.toNat_natCast]; omega)) rfl K ?_
          refine W Z Z g20 K<|o_loadv Z Z K<|W Z Z g20 K<|o_call1 Z Z EntC.out K (in42_spec _ _ _)<|W Z Z g20 K<|o_not Z K<|o_pickf Z g20 rfl K<|o_nil<|h_cond Z (fun c22 => ?_) (fun c22 => ?_)
          ·
           refine h_seq<|H<|S Z K<|o_nil<|h_ret<|ret1' Z (B_eq ?_)
           exact (rv_c (k := q) hlt (by simp only [rbadL]; simp_all)).symm
          ·
           refine h_skip<|h_seq<|H<|G Z K<|F Z Z K K<|O 0 Z Z Z Z K<|G Z K<|o_idxv Z Z (by omega) (eltIn (by simp only [Int.toNat_natCast]; omega)) rfl K ?_
           refine o_loadv Z Z K<|o_add Z Z (by have hbb : -1000000000000 ≤ w.bal.getD q 0 ∧ w.bal.getD q 0 ≤ 1000000000000 := (by simp only [inR] at *; simp_all); unfold in64; simp only [Int.toNat_natCast]; omega) K ?_
           refine S Z K<|o_nil<|h_seq<|H<|F Z Z K K<|O 0 Z Z Z Z K<|G Z K ?_
           refine o_call1 Z Z EntC.out K (bit42_spec _ _ (by omega) (by omega))<|o_nil<|h_cond Z (fun c24 => ?_) (fun c24 => ?_)
           ·
            refine h_seq<|H<|G Z K<|F Z Z K K<|O 0 Z Z Z Z K<|G Z K<|o_idxv Z Z (by omega) (eltIn (by simp only [Int.toNat_natCast]; omega)) rfl K ?_
            refine o_loadv Z Z K<|o_min Z Z K<|S Z K<|o_nil<|H<|G Z K<|F Z Z K K<|O 0 Z Z Z Z K<|G Z K<|o_idxv Z Z (by omega) (eltIn (by simp only [Int.toNat_natCast]; omega)) rfl K ?_
            refine o_loadv Z Z K<|o_max Z Z K<|S Z K<|o_nil<|H<|G Z K<|o_add Z Z (by unfold in64; (try dsimp only); omega) K ?_
            refine S Z K<|o_nil ?_
            have hbad : rbadL w q = false := by simp only [rbadL]; simp_all
            have ha1 : bitM w.alive (q : Int) = true := c24
            refine back rfl ⟨q + 1, hlt, fun j hj => (by rcases Nat.lt_succ_iff_lt_or_eq.1 hj with h1 | h1; exact hq2 j h1; subst h1; exact hbad)⟩ (by dsimp only; omega) (.cons_cons _ (.refl _)) (subT.cons Z (subT.cons Z (subT.cons (by simp only [rleast, ha1]; rfl) (subT.cons (by simp only [rmost, ha1]; rfl) (subT.cons Z subT.nil)))))
           ·
            refine h_seq<|H<|F Z Z K K<|O 0 Z Z Z Z K<|G Z K<|o_idxv Z Z (by omega) (eltIn (by simp only [Int.toNat_natCast]; omega)) rfl K ?_
            refine o_loadv Z Z K<|o_cmp Z Z Z K<|G Z K<|o_guard Z Z K (fun g26 => ?_) (fun g26 => ?_)
            ·
             have g26 : _ = false := g26
             refine F Z Z K K<|W Z Z g26 K<|O 0 Z Z Z Z K<|W Z Z g26 K<|G Z K<|W Z Z g26 K<|o_idxv Z Z (by omega) (eltIn (by simp only [Int.toNat_natCast]; omega)) rfl K ?_
             refine W Z Z g26 K<|o_loadv Z Z K<|W Z Z g26 K<|o_cmp Z Z Z K<|o_pickf Z g26 rfl K<|o_nil<|h_cond Z (fun c28 => ?_) (fun c28 => ?_)
             ·
              refine h_seq<|H<|S Z K<|o_nil<|h_ret<|ret1' Z (B_eq ?_)
              exact (rv_c (k := q) hlt (by simp only [rbadL]; simp_all)).symm
             ·
              refine h_skip<|H<|G Z K<|o_add Z Z (by unfold in64; (try dsimp only); omega) K ?_
              refine S Z K<|o_nil ?_
              have hbad : rbadL w q = false := by simp only [rbadL]; simp_all
              have ha1 : bitM w.alive (q : Int) = false := c24
              refine back rfl ⟨q + 1, hlt, fun j hj => (by rcases Nat.lt_succ_iff_lt_or_eq.1 hj with h1 | h1; exact hq2 j h1; subst h1; exact hbad)⟩ (by dsimp only; omega) (.cons_cons _ (.refl _)) (subT.cons Z (subT.cons Z (subT.cons (by simp only [rleast, ha1]; rfl) (subT.cons (by simp only [rmost, ha1]; rfl) (subT.cons Z subT.nil)))))
            ·
             have g26 : _ = true := g26
             refine U Z Z g26 K<|U Z Z g26 K<|U Z Z g26 K<|U Z Z g26 K<|U Z Z g26 K<|o_pickt Z g26 rfl K<|o_nil<|h_condt Z Z<|h_seq<|H<|S Z K<|o_nil ?_
             refine h_ret<|ret1' Z (B_eq ?_)
             exact (rv_c (k := q) hlt (by simp only [rbadL]; simp_all)).symm
         ·
          have g20 : _ = true := g20
          refine U Z Z g20 K<|U Z Z g20 K<|U Z Z g20 K<|U Z Z g20 K<|U Z Z g20 K<|U Z Z g20 K<|o_pickt Z g20 rfl K<|o_nil<|h_condt Z Z<|h_seq<|H<|S Z K ?_
          refine o_nil<|h_ret<|ret1' Z (B_eq ?_)
          exact (rv_c (k := q) hlt (by simp only [rbadL]; simp_all)).symm
        ·
         have hsb := rsum_bd q hq2
         obtain rfl : q = 8 := by omega
         have hlm := rlm_bd 8 hq2
         refine h_seq<|h_seq<|H<|G Z K<|o_cmp Z Z Z K<|o_nil<|h_condf Z (by simp <;> omega) ?_
         refine h_exit<|h_seq<|H<|G Z K<|o_cmp Z Z Z K<|G Z K<|o_guard Z Z K (fun g31 => ?_) (fun g31 => ?_)
         ·
          have g31 : _ = true := g31
          refine F Z Z K K<|W Z Z g31 K<|O 0 Z Z Z Z K<|W Z Z g31 K<|o_cmp Z Z Z K<|W Z Z g31 K<|G Z K<|o_guard Z Z K (fun g33 => ?_) (fun g33 => ?_)
          ·
           have g33 : _ = false := g33
           refine G Z K<|W Z Z g33 K<|G Z K<|W Z Z g33 K<|o_sub Z Z (by unfold in64; (try dsimp only); omega) K ?_
           refine W Z Z g33 K<|o_cmp Z Z Z K<|W Z Z g31 K<|o_pickf Z g33 rfl K<|o_pickt Z g31 rfl K<|S Z K<|o_nil<|h_ret<|ret1' Z (B_eq ?_)
           rw [rv_d hrh hok0 hq2]
           simp_all
          ·
           have g33 : _ = true := g33
           refine U Z Z g33 K<|U Z Z g33 K<|U Z Z g33 K<|W Z Z g31 K<|o_pickt Z g33 rfl K<|o_pickt Z g31 rfl K<|S Z K<|o_nil<|h_ret<|ret1' Z (B_eq ?_)
           rw [rv_d hrh hok0 hq2]
           simp_all
         ·
          have g31 : _ = false := g31
          refine U Z Z g31 K<|U Z Z g31 K<|U Z Z g31 K<|o_guardx Z Z K<|o_guardx Z Z K<|o_guardx Z Z K<|o_guardx Z Z K<|U Z Z g31 K<|o_pickf Z g31 rfl K<|S Z K<|o_nil<|h_ret ?_
          refine ret1' Z (B_eq ?_)
          rw [rv_d hrh hok0 hq2]
          simp_all
     ·
      have g11 : _ = true := g11
      refine U Z Z g11 K<|U Z Z g11 K<|U Z Z g11 K<|o_pickt Z g11 rfl K<|o_nil<|h_condt Z Z<|h_seq<|H<|S Z K<|o_nil<|h_ret<|ret1' Z (B_eq ?_)
      exact (rv_a (by simp only [rhead]; simp_all)).symm
    ·
     have g9 : _ = true := g9
     refine U Z Z g9 K<|U Z Z g9 K<|U Z Z g9 K<|o_pickt Z g9 rfl K<|G Z K<|U Z Z Z K<|U Z Z Z K<|U Z Z Z K<|U Z Z Z K<|o_pickt Z Z Z K<|o_nil<|h_condt Z Z ?_
     refine h_seq<|H<|S Z K<|o_nil<|h_ret<|ret1' Z (B_eq ?_)
     exact (rv_a (by simp only [rhead]; simp_all)).symm
   ·
    have g7 : _ = true := g7
    refine U Z Z g7 K<|U Z Z g7 K<|U Z Z g7 K<|o_pickt Z g7 rfl K<|G Z K<|U Z Z Z K<|U Z Z Z K<|U Z Z Z K<|U Z Z Z K<|o_pickt Z Z Z K<|G Z K<|U Z Z Z K ?_
    refine U Z Z Z K<|U Z Z Z K<|U Z Z Z K<|o_pickt Z Z Z K<|o_nil<|h_condt Z Z<|h_seq<|H<|S Z K<|o_nil<|h_ret<|ret1' Z (B_eq ?_)
    exact (rv_a (by simp only [rhead]; simp_all)).symm
  ·
   have g5 : _ = true := g5
   refine U Z Z g5 K<|U Z Z g5 K<|U Z Z g5 K<|U Z Z g5 K<|U Z Z g5 K<|o_pickt Z g5 rfl K<|G Z K<|U Z Z Z K<|U Z Z Z K<|U Z Z Z K<|U Z Z Z K<|o_pickt Z Z Z K ?_
   refine G Z K<|U Z Z Z K<|U Z Z Z K<|U Z Z Z K<|U Z Z Z K<|o_pickt Z Z Z K<|G Z K<|U Z Z Z K<|U Z Z Z K<|U Z Z Z K<|U Z Z Z K<|o_pickt Z Z Z K ?_
   refine o_nil<|h_condt Z Z<|h_seq<|H<|S Z K<|o_nil<|h_ret<|ret1' Z (B_eq ?_)
   exact (rv_a (by simp only [rhead]; simp_all)).symm
 ·
  have g3 : _ = true := g3
  refine U Z Z g3 K<|U Z Z g3 K<|U Z Z g3 K<|o_pickt Z g3 rfl K<|G Z K<|U Z Z Z K<|U Z Z Z K<|U Z Z Z K<|U Z Z Z K<|U Z Z Z K<|U Z Z Z K<|o_pickt Z Z Z K ?_
  refine G Z K<|U Z Z Z K<|U Z Z Z K<|U Z Z Z K<|U Z Z Z K<|o_pickt Z Z Z K<|G Z K<|U Z Z Z K<|U Z Z Z K<|U Z Z Z K<|U Z Z Z K<|o_pickt Z Z Z K ?_
  refine G Z K<|U Z Z Z K<|U Z Z Z K<|U Z Z Z K<|U Z Z Z K<|o_pickt Z Z Z K<|o_nil<|h_condt Z Z<|h_seq<|H<|S Z K<|o_nil ?_
  refine h_ret<|ret1' Z (B_eq ?_)
  exact (rv_a (by simp only [rhead]; simp_all)).symm

end Go.Proofs.YtnoicbajhlpndaaGreat
