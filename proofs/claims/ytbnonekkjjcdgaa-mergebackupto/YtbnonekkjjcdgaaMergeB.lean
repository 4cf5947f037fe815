/- The walks of package merge: merge, split, windUp. -/
import Derived.Test.YtbnonekkjjcdgaaMergeA
namespace Go.Proofs.Ytbnonekkjjcdgaa
open Go Go.RowKit Go.Shelf Hp
set_option maxRecDepth 10000
set_option maxHeartbeats 1000000
set_option linter.unusedVariables false
set_option linter.unusedSimpArgs false
attribute [local irreducible] WP WPs FnX IterX YdX RetP PanP Ch Back Join
def mergeW (w : Wd) (e : Ev) : Option Wd :=
  if (bareE e && decide (e.c = 0) && hasC w.alive e.b && decide (e.a ≠ e.b)) = false then none else
  if (swapB w.blocks e.a e.b).2 ≠ 0 then none else
  some (endW { w with blocks := (swapB w.blocks e.a e.b).1, bal := w.bal.set e.b.toNat (w.bal.getD e.b.toNat 0 + w.bal.getD e.a.toNat 0) } e.a)
def splitW (w : Wd) (e : Ev) : Option Wd :=
  if (fullE e && decide (e.c = 0) && !hasC w.ever e.b) = false then none else
  if (onlyB w.blocks e.f e.to).2 ≠ 0 then none else
  if (swapB (onlyB w.blocks e.f e.to).1 e.a e.b).2 ≠ 0 then none else
  if (overlayB w.blocks (swapB (onlyB w.blocks e.f e.to).1 e.a e.b).1).2 ≠ 0 then none else
  some { alive := bits64 .or w.alive (1 * 2 ^ e.b.toNat), ever := bits64 .or w.ever (1 * 2 ^ e.b.toNat), blocks := (overlayB w.blocks (swapB (onlyB w.blocks e.f e.to).1 e.a e.b).1).1,
         bal := (w.bal.set e.a.toNat (w.bal.getD e.a.toNat 0 - e.m)).set e.b.toNat e.m, lev := w.lev.set e.b.toNat (w.lev.getD e.a.toNat 0) }
def windBal (w : Wd) (e : Ev) : List Int := w.bal.set e.b.toNat (w.bal.getD e.b.toNat 0 + e.m)
def windW (w : Wd) (e : Ev) : Option Wd :=
  if (fullE e && hasC w.alive e.b && hasC w.alive e.c && decide (e.a ≠ e.b) && decide (e.a ≠ e.c)) = false then none else
  if (onlyB w.blocks e.f e.to).2 ≠ 0 then none else
  if (swapB (onlyB w.blocks e.f e.to).1 e.a e.b).2 ≠ 0 then none else
  if (swapB w.blocks e.a e.c).2 ≠ 0 then none else
  if (overlayB (swapB w.blocks e.a e.c).1 (swapB (onlyB w.blocks e.f e.to).1 e.a e.b).1).2 ≠ 0 then none else
  some (endW { w with blocks := (overlayB (swapB w.blocks e.a e.c).1 (swapB (onlyB w.blocks e.f e.to).1 e.a e.b).1).1,
                      bal := (windBal w e).set e.c.toNat ((windBal w e).getD e.c.toNat 0 + ((windBal w e).getD e.a.toNat 0 - e.m)) } e.a)
/-- What an event does, or that it is impossible. -/
abbrev DoR (o : Option Wd) (x b1 b2 c1 c2 : Nat) : AEnd → AHeap → Prop := fun E h' => (∃ w' f', o = some w' ∧ E = .ret (.tup []) ∧ h' = WH w' f' x b1 b2 c1 c2) ∨ (o = none ∧ E = .pan impC)
theorem bal_bound {w : Wd} (hv : VParts w) (i : Nat) : -1000000000000 ≤ w.bal.getD i 0 ∧ w.bal.getD i 0 ≤ 1000000000000 := by
  by_cases h : i < 8
  · have := hv.ok i h; simp only [okAt, Bool.and_eq_true] at this; exact money_of this.1.1
  · have : w.bal.getD i 0 = 0 := by have := hv.lb; simp; rw [List.getElem?_eq_none (by omega)]; rfl
    omega
theorem full_money {e : Ev} (h : fullE e = true) : -1000000000000 ≤ e.m ∧ e.m ≤ 1000000000000 := by
  simp only [fullE, Bool.and_eq_true] at h; exact money_of h.2
theorem getD_set_bound {l : List Int} {b : Int} {i j : Nat} {v : Int} (h : ∀ k, -b ≤ l.getD k 0 ∧ l.getD k 0 ≤ b) {d : Int} (hd : b ≤ d) (hv : -d ≤ v ∧ v ≤ d) : -d ≤ (l.set i v).getD j 0 ∧ (l.set i v).getD j 0 ≤ d := by
  simp only [List.getD_eq_getElem?_getD, List.getElem?_set] at h ⊢
  have hj := h j
  split
  · split
    · simpa using hv
    · have := h j; rename_i h1 h2; subst h1; simp; omega
  · omega
theorem windBal_bound {w : Wd} {e : Ev} (hv : VParts w) (hf : fullE e = true) (i : Nat) : -2000000000000 ≤ (windBal w e).getD i 0 ∧ (windBal w e).getD i 0 ≤ 2000000000000 :=
  getD_set_bound (b := 1000000000000) (d := 2000000000000) (bal_bound hv) (by omega) (by have := full_money hf; have := bal_bound hv e.b.toNat; omega)
theorem swapB_len (l : List Blk) : True := trivial

theorem merge_do (w : Wd) (f : Bool) (x b1 b2 c1 c2 : Nat) (e : Ev) (hv : VParts w) (ha0 : 0 ≤ e.a) (ha7 : e.a ≤ 7) (hb0 : 0 ≤ e.b) (hb7 : e.b ≤ 7) (hc0 : 0 ≤ e.c) (hc7 : e.c ≤ 7) : FnE Try.prog 78 [.ptr x 0, encE e] (WH w f x b1 b2 c1 c2) (DoR (mergeW w e) x b1 b2 c1 c2) := by
  refine fnE_intro (N := 67) Try.func78 rfl rfl rfl ?_
  intro X
  refine h_seq ?_
  refine h_region ?_
  refine o_box rfl rfl (by decide) fun x1 => ?_
  refine o_nil ?_
  refine h_seq ?_
  refine h_draw _ (List.nil_sublist _) [(0, .val), (1, .flo), (2, .flo), (3, .flo), (4, .val), (5, .flo), (6, .flo), (7, .flo), (8, .flo), (9, .flo), (10, .flo), (11, .flo), (12, .val), (13, .flo), (14, .val), (15, .flo), (16, .flo), (17, .flo), (18, .flo), (19, .val), (20, .flo), (21, .val), (22, .flo), (23, .flo), (24, .bar)] mixed (by kernel_rfl) ?_
  refine c_val rfl rfl (fun Xq rq Qq dq kq => o_load 0 rfl rfl rfl rfl (by decide) kq) ?_
  refine c_flo rfl rfl (fun Xq rq Qq dq kq => o_call1 rfl rfl EntC.out (by decide) (isBare_spec _) kq) ?_
  refine c_flo rfl rfl (fun Xq rq Qq dq kq => o_move rfl (by decide) kq) ?_
  refine c_split (t := 6) rfl (fun g3 => ?_) (fun g3 => ?_)
  ·
    have g3 : _ = true := g3
    refine c_flo rfl rfl (fun Xq rq Qq dq kq => o_guardy rfl rfl g3 (by decide) (o_faddr rfl rfl (by decide) (by decide) kq)) ?_
    refine c_val rfl rfl (fun Xq rq Qq dq kq => o_guardy rfl rfl g3 (by decide) (o_load 0 rfl rfl rfl rfl (by decide) kq)) ?_
    refine c_flo rfl rfl (fun Xq rq Qq dq kq => o_guardy rfl rfl g3 (by decide) (o_cmp rfl rfl rfl (by decide) kq)) ?_
    refine c_flo rfl rfl (fun Xq rq Qq dq kq => o_pickt rfl g3 rfl (by decide) kq) ?_
    refine c_flo rfl rfl (fun Xq rq Qq dq kq => o_move rfl (by decide) kq) ?_
    refine c_split (t := 11) rfl (fun g5 => ?_) (fun g5 => ?_)
    ·
      have g5 : _ = true := g5
      refine c_flo rfl rfl (fun Xq rq Qq dq kq => o_guardy rfl rfl g5 (by decide) (o_move rfl (by decide) kq)) ?_
      refine c_flo rfl rfl (fun Xq rq Qq dq kq => o_guardy rfl rfl g5 (by decide) (o_nilp rfl (by decide) kq)) ?_
      refine c_flo rfl rfl (fun Xq rq Qq dq kq => o_guardy rfl rfl g5 (by decide) (o_faddr rfl rfl (by decide) (by decide) kq)) ?_
      refine c_flo rfl rfl (fun Xq rq Qq dq kq => o_guardy rfl rfl g5 (by decide) (o_faddr rfl rfl (by decide) (by decide) kq)) ?_
      refine c_val rfl rfl (fun Xq rq Qq dq kq => o_guardy rfl rfl g5 (by decide) (o_load 1 rfl rfl rfl rfl (by decide) kq)) ?_
      refine c_flo rfl rfl (fun Xq rq Qq dq kq => o_guardy rfl rfl g5 (by decide) (o_faddr rfl rfl (by decide) (by decide) kq)) ?_
      refine c_val rfl rfl (fun Xq rq Qq dq kq => o_guardy rfl rfl g5 (by decide) (o_load 0 rfl rfl rfl rfl (by decide) kq)) ?_
      refine c_flo rfl rfl (fun Xq rq Qq dq kq => o_guardy rfl rfl g5 (by decide) (o_call1 rfl rfl EntC.out (by decide) (has_spec _ _ (by omega) (by omega)) kq)) ?_
      refine c_flo rfl rfl (fun Xq rq Qq dq kq => o_pickt rfl g5 rfl (by decide) kq) ?_
      refine c_flo rfl rfl (fun Xq rq Qq dq kq => o_move rfl (by decide) kq) ?_
      refine c_split (t := 21) rfl (fun g7 => ?_) (fun g7 => ?_)
      ·
        have g7 : _ = true := g7
        refine c_flo rfl rfl (fun Xq rq Qq dq kq => o_guardy rfl rfl g7 (by decide) (o_faddr rfl rfl (by decide) (by decide) kq)) ?_
        refine c_val rfl rfl (fun Xq rq Qq dq kq => o_guardy rfl rfl g7 (by decide) (o_load 0 rfl rfl rfl rfl (by decide) kq)) ?_
        refine c_flo rfl rfl (fun Xq rq Qq dq kq => o_guardy rfl rfl g7 (by decide) (o_faddr rfl rfl (by decide) (by decide) kq)) ?_
        refine c_val rfl rfl (fun Xq rq Qq dq kq => o_guardy rfl rfl g7 (by decide) (o_load 0 rfl rfl rfl rfl (by decide) kq)) ?_
        refine c_flo rfl rfl (fun Xq rq Qq dq kq => o_guardy rfl rfl g7 (by decide) (o_cmp rfl rfl rfl (by decide) kq)) ?_
        refine c_flo rfl rfl (fun Xq rq Qq dq kq => o_pickt rfl g7 rfl (by decide) kq) ?_
        refine c_bar ?_
        refine o_need rfl rfl (by decide) (fun hn28 => ?_) (fun hn28 => panK (.inr ⟨(by unfold mergeW; rw [if_pos (by simp_all)]), rfl⟩))
        refine o_nil ?_
        refine h_seq ?_
        refine h_draw _ (List.nil_sublist _) [(0, .flo), (1, .flo), (2, .flo), (3, .flo), (4, .flo), (5, .val), (6, .flo), (7, .val), (8, .flo), (9, .val), (10, .flo), (11, .flo), (12, .flo), (13, .bar)] mixed (by kernel_rfl) ?_
        refine c_flo rfl rfl (fun Xq rq Qq dq kq => o_move rfl (by decide) kq) ?_
        refine c_flo rfl rfl (fun Xq rq Qq dq kq => o_move rfl (by decide) kq) ?_
        refine c_flo rfl rfl (fun Xq rq Qq dq kq => o_nilp rfl (by decide) kq) ?_
        refine c_flo rfl rfl (fun Xq rq Qq dq kq => o_faddr rfl rfl (by decide) (by decide) kq) ?_
        refine c_flo rfl rfl (fun Xq rq Qq dq kq => o_faddr rfl rfl (by decide) (by decide) kq) ?_
        refine c_val rfl rfl (fun Xq rq Qq dq kq => o_load 1 rfl rfl rfl rfl (by decide) kq) ?_
        refine c_flo rfl rfl (fun Xq rq Qq dq kq => o_faddr rfl rfl (by decide) (by decide) kq) ?_
        refine c_val rfl rfl (fun Xq rq Qq dq kq => o_load 0 rfl rfl rfl rfl (by decide) kq) ?_
        refine c_flo rfl rfl (fun Xq rq Qq dq kq => o_faddr rfl rfl (by decide) (by decide) kq) ?_
        refine c_val rfl rfl (fun Xq rq Qq dq kq => o_load 0 rfl rfl rfl rfl (by decide) kq) ?_
        refine c_flo rfl rfl (fun Xq rq Qq dq kq => o_call1 rfl rfl EntC.out (by decide) (swap_spec _ _ _ _) kq) ?_
        refine c_flo rfl rfl (fun Xq rq Qq dq kq => o_extract rfl rfl (by decide) kq) ?_
        refine c_flo rfl rfl (fun Xq rq Qq dq kq => o_extract rfl rfl (by decide) kq) ?_
        refine c_bar ?_
        refine o_callRE (h2 := [(x1, .box 36 [I e.kind, I e.t, I e.a, I e.b, I e.c, I e.f, I e.to, I e.m])]) rfl rfl rfl EntC.out (by decide) (set_spec w f x b1 b2 c1 c2 _ _ _) (fun v h' hr => ?_) (fun c h' hr => ?_)
        rotate_left
        ·
          obtain ⟨_, h2, _⟩ | ⟨h1, h2⟩ := hr
          · cases h2
          · cases h2; exact panK (.inr ⟨(by unfold mergeW; rw [if_neg (by simp_all), if_pos (by simp_all)]), rfl⟩)
        obtain ⟨hs, h2, rfl⟩ | ⟨_, h2⟩ := hr
        rotate_left
        · cases h2
        cases h2
        refine o_nil ?_
        refine h_seq ?_
        refine h_draw _ (.cons_cons _ (.cons_cons _ (.cons _ (.cons _ (List.nil_sublist _))))) [(0, .flo), (1, .flo), (2, .flo), (3, .flo), (4, .box), (5, .flo), (6, .box), (7, .flo), (8, .val), (9, .flo), (10, .flo), (11, .flo), (12, .flo), (13, .box), (14, .flo), (15, .box), (16, .flo), (17, .val), (18, .flo), (19, .flo), (20, .sto)] mixed (by kernel_rfl) ?_
        refine c_flo rfl rfl (fun Xq rq Qq dq kq => o_move rfl (by decide) kq) ?_
        refine c_flo rfl rfl (fun Xq rq Qq dq kq => o_nilp rfl (by decide) kq) ?_
        refine c_flo rfl rfl (fun Xq rq Qq dq kq => o_faddr rfl rfl (by decide) (by decide) kq) ?_
        refine c_flo rfl rfl (fun Xq rq Qq dq kq => o_faddr rfl rfl (by decide) (by decide) kq) ?_
        refine c_box rfl rfl (fun Xq rq Qq dq kq => o_load 1 rfl rfl rfl rfl (by decide) kq) ?_
        refine c_flo rfl rfl (fun Xq rq Qq dq kq => o_faddr rfl rfl (by decide) (by decide) kq) ?_
        refine c_box rfl rfl (fun Xq rq Qq dq kq => o_load 0 rfl rfl rfl rfl (by decide) kq) ?_
        refine c_flo rfl rfl (fun Xq rq Qq dq kq => o_idxo rfl rfl (by omega) (by omega) (by decide) kq) ?_
        refine c_val rfl rfl (fun Xq rq Qq dq kq => o_loade 2 rfl rfl (eltW (by simp [hv.lb, hv.ll, windBal]; omega)) rfl rfl (by decide) kq) ?_
        refine c_flo rfl rfl (fun Xq rq Qq dq kq => o_move rfl (by decide) kq) ?_
        refine c_flo rfl rfl (fun Xq rq Qq dq kq => o_nilp rfl (by decide) kq) ?_
        refine c_flo rfl rfl (fun Xq rq Qq dq kq => o_faddr rfl rfl (by decide) (by decide) kq) ?_
        refine c_flo rfl rfl (fun Xq rq Qq dq kq => o_faddr rfl rfl (by decide) (by decide) kq) ?_
        refine c_box rfl rfl (fun Xq rq Qq dq kq => o_load 1 rfl rfl rfl rfl (by decide) kq) ?_
        refine c_flo rfl rfl (fun Xq rq Qq dq kq => o_faddr rfl rfl (by decide) (by decide) kq) ?_
        refine c_box rfl rfl (fun Xq rq Qq dq kq => o_load 0 rfl rfl rfl rfl (by decide) kq) ?_
        refine c_flo rfl rfl (fun Xq rq Qq dq kq => o_idxo rfl rfl (by omega) (by omega) (by decide) kq) ?_
        refine c_val rfl rfl (fun Xq rq Qq dq kq => o_loade 2 rfl rfl (eltW (by simp [hv.lb, hv.ll, windBal]; omega)) rfl rfl (by decide) kq) ?_
        refine c_flo rfl rfl (fun Xq rq Qq dq kq => o_add rfl rfl (by have h1 := bal_bound hv e.a.toNat; have h2 := bal_bound hv e.b.toNat; unfold in64; (try dsimp only); omega) (by decide) kq) ?_
        refine c_flo rfl rfl (fun Xq rq Qq dq kq => o_idxo rfl rfl (by omega) (by omega) (by decide) kq) ?_
        refine c_sto (.cons_cons _ (.cons_cons _ (.cons _ (.cons _ (List.nil_sublist _))))) rfl rfl (fun Xq rq Qq dq kq => o_storee 2 rfl rfl (eltW (by simp [hv.lb, hv.ll, windBal]; omega)) rfl rfl rfl rfl (by simp [encI]) kq) ?_
        refine c_nil ?_
        refine h_heap (h' := (x1, .box 36 [I e.kind, I e.t, I e.a, I e.b, I e.c, I e.f, I e.to, I e.m]) :: WH { w with blocks := (swapB w.blocks e.a e.b).1, bal := w.bal.set e.b.toNat (w.bal.getD e.b.toNat 0 + w.bal.getD e.a.toNat 0) } (swapB w.blocks e.a e.b).1.isEmpty x b1 b2 c1 c2) (by simp only [WH, Nat.zero_add, setEnc, windBal] <;> rfl) ?_
        refine h_region ?_
        refine o_move rfl (by decide) ?_
        refine o_faddr rfl rfl (by decide) (by decide) ?_
        refine o_load 0 rfl rfl rfl rfl (by decide) ?_
        refine o_callR (h2 := [(x1, .box 36 [I e.kind, I e.t, I e.a, I e.b, I e.c, I e.f, I e.to, I e.m])]) rfl rfl rfl EntC.out (by decide) (end_spec { w with blocks := (swapB w.blocks e.a e.b).1, bal := w.bal.set e.b.toNat (w.bal.getD e.b.toNat 0 + w.bal.getD e.a.toNat 0) } _ x b1 b2 c1 c2 e.a ha0 ha7 (by simp [hv.lb, windBal]) (by simp [hv.ll])) fun v h' hr => ?_
        obtain ⟨rfl, rfl⟩ := hr
        refine o_nil ?_
        exact retS0 _ (.cons _ (.refl _)) (.inl ⟨_, _, (by unfold mergeW; rw [if_neg (by simp_all), if_neg (by simp_all)]), rfl, rfl⟩)
      ·
        have g7 : _ = false := g7
        refine c_flo rfl rfl (fun Xq rq Qq dq kq => o_guardn rfl rfl g7 (by decide) kq) ?_
        refine c_val rfl rfl (fun Xq rq Qq dq kq => o_guardn rfl rfl g7 (by decide) kq) ?_
        refine c_flo rfl rfl (fun Xq rq Qq dq kq => o_guardn rfl rfl g7 (by decide) kq) ?_
        refine c_val rfl rfl (fun Xq rq Qq dq kq => o_guardn rfl rfl g7 (by decide) kq) ?_
        refine c_flo rfl rfl (fun Xq rq Qq dq kq => o_guardn rfl rfl g7 (by decide) kq) ?_
        refine c_flo rfl rfl (fun Xq rq Qq dq kq => o_pickf rfl g7 rfl (by decide) kq) ?_
        refine c_bar ?_
        refine o_need rfl rfl (by decide) (fun hn28 => absurd hn28 (by simp_all)) (fun hn28 => panK (.inr ⟨(by unfold mergeW; rw [if_pos (by simp_all)]), rfl⟩))
    ·
      have g5 : _ = false := g5
      refine c_flo rfl rfl (fun Xq rq Qq dq kq => o_guardn rfl rfl g5 (by decide) kq) ?_
      refine c_flo rfl rfl (fun Xq rq Qq dq kq => o_guardn rfl rfl g5 (by decide) kq) ?_
      refine c_flo rfl rfl (fun Xq rq Qq dq kq => o_guardn rfl rfl g5 (by decide) kq) ?_
      refine c_flo rfl rfl (fun Xq rq Qq dq kq => o_guardn rfl rfl g5 (by decide) kq) ?_
      refine c_val rfl rfl (fun Xq rq Qq dq kq => o_guardn rfl rfl g5 (by decide) kq) ?_
      refine c_flo rfl rfl (fun Xq rq Qq dq kq => o_guardn rfl rfl g5 (by decide) kq) ?_
      refine c_val rfl rfl (fun Xq rq Qq dq kq => o_guardn rfl rfl g5 (by decide) kq) ?_
      refine c_flo rfl rfl (fun Xq rq Qq dq kq => o_guardn rfl rfl g5 (by decide) kq) ?_
      refine c_flo rfl rfl (fun Xq rq Qq dq kq => o_pickf rfl g5 rfl (by decide) kq) ?_
      refine c_flo rfl rfl (fun Xq rq Qq dq kq => o_move rfl (by decide) kq) ?_
      refine c_flo rfl rfl (fun Xq rq Qq dq kq => o_guardn rfl rfl rfl (by decide) kq) ?_
      refine c_val rfl rfl (fun Xq rq Qq dq kq => o_guardn rfl rfl rfl (by decide) kq) ?_
      refine c_flo rfl rfl (fun Xq rq Qq dq kq => o_guardn rfl rfl rfl (by decide) kq) ?_
      refine c_val rfl rfl (fun Xq rq Qq dq kq => o_guardn rfl rfl rfl (by decide) kq) ?_
      refine c_flo rfl rfl (fun Xq rq Qq dq kq => o_guardn rfl rfl rfl (by decide) kq) ?_
      refine c_flo rfl rfl (fun Xq rq Qq dq kq => o_pickf rfl rfl rfl (by decide) kq) ?_
      refine c_bar ?_
      refine o_need rfl rfl (by decide) (fun hn28 => absurd hn28 (by simp_all)) (fun hn28 => panK (.inr ⟨(by unfold mergeW; rw [if_pos (by simp_all)]), rfl⟩))
  ·
    have g3 : _ = false := g3
    refine c_flo rfl rfl (fun Xq rq Qq dq kq => o_guardn rfl rfl g3 (by decide) kq) ?_
    refine c_val rfl rfl (fun Xq rq Qq dq kq => o_guardn rfl rfl g3 (by decide) kq) ?_
    refine c_flo rfl rfl (fun Xq rq Qq dq kq => o_guardn rfl rfl g3 (by decide) kq) ?_
    refine c_flo rfl rfl (fun Xq rq Qq dq kq => o_pickf rfl g3 rfl (by decide) kq) ?_
    refine c_flo rfl rfl (fun Xq rq Qq dq kq => o_move rfl (by decide) kq) ?_
    refine c_flo rfl rfl (fun Xq rq Qq dq kq => o_guardn rfl rfl rfl (by decide) kq) ?_
    refine c_flo rfl rfl (fun Xq rq Qq dq kq => o_guardn rfl rfl rfl (by decide) kq) ?_
    refine c_flo rfl rfl (fun Xq rq Qq dq kq => o_guardn rfl rfl rfl (by decide) kq) ?_
    refine c_flo rfl rfl (fun Xq rq Qq dq kq => o_guardn rfl rfl rfl (by decide) kq) ?_
    refine c_val rfl rfl (fun Xq rq Qq dq kq => o_guardn rfl rfl rfl (by decide) kq) ?_
    refine c_flo rfl rfl (fun Xq rq Qq dq kq => o_guardn rfl rfl rfl (by decide) kq) ?_
    refine c_val rfl rfl (fun Xq rq Qq dq kq => o_guardn rfl rfl rfl (by decide) kq) ?_
    refine c_flo rfl rfl (fun Xq rq Qq dq kq => o_guardn rfl rfl rfl (by decide) kq) ?_
    refine c_flo rfl rfl (fun Xq rq Qq dq kq => o_pickf rfl rfl rfl (by decide) kq) ?_
    refine c_flo rfl rfl (fun Xq rq Qq dq kq => o_move rfl (by decide) kq) ?_
    refine c_flo rfl rfl (fun Xq rq Qq dq kq => o_guardn rfl rfl rfl (by decide) kq) ?_
    refine c_val rfl rfl (fun Xq rq Qq dq kq => o_guardn rfl rfl rfl (by decide) kq) ?_
    refine c_flo rfl rfl (fun Xq rq Qq dq kq => o_guardn rfl rfl rfl (by decide) kq) ?_
    refine c_val rfl rfl (fun Xq rq Qq dq kq => o_guardn rfl rfl rfl (by decide) kq) ?_
    refine c_flo rfl rfl (fun Xq rq Qq dq kq => o_guardn rfl rfl rfl (by decide) kq) ?_
    refine c_flo rfl rfl (fun Xq rq Qq dq kq => o_pickf rfl rfl rfl (by decide) kq) ?_
    refine c_bar ?_
    refine o_need rfl rfl (by decide) (fun hn28 => absurd hn28 (by simp_all)) (fun hn28 => panK (.inr ⟨(by unfold mergeW; rw [if_pos (by simp_all)]), rfl⟩))

theorem split_do (w : Wd) (f : Bool) (x b1 b2 c1 c2 : Nat) (e : Ev) (hv : VParts w) (ha0 : 0 ≤ e.a) (ha7 : e.a ≤ 7) (hb0 : 0 ≤ e.b) (hb7 : e.b ≤ 7) (hc0 : 0 ≤ e.c) (hc7 : e.c ≤ 7) : FnE Try.prog 79 [.ptr x 0, encE e] (WH w f x b1 b2 c1 c2) (DoR (splitW w e) x b1 b2 c1 c2) := by
  refine fnE_intro (N := 126) Try.func79 rfl rfl rfl ?_
  intro X
  refine h_seq ?_
  refine h_region ?_
  refine o_box rfl rfl (by decide) fun x9 => ?_
  refine o_nil ?_
  refine h_seq ?_
  refine h_draw _ (List.nil_sublist _) [(0, .val), (1, .flo), (2, .flo), (3, .flo), (4, .val), (5, .flo), (6, .flo), (7, .flo), (8, .flo), (9, .flo), (10, .flo), (11, .flo), (12, .val), (13, .flo), (14, .val), (15, .flo), (16, .flo), (17, .flo), (18, .bar)] mixed (by kernel_rfl) ?_
  refine c_val rfl rfl (fun Xq rq Qq dq kq => o_load 0 rfl rfl rfl rfl (by decide) kq) ?_
  refine c_flo rfl rfl (fun Xq rq Qq dq kq => o_call1 rfl rfl EntC.out (by decide) (isFull_spec _) kq) ?_
  refine c_flo rfl rfl (fun Xq rq Qq dq kq => o_move rfl (by decide) kq) ?_
  refine c_split (t := 8) rfl (fun g11 => ?_) (fun g11 => ?_)
  ·
    have g11 : _ = true := g11
    refine c_flo rfl rfl (fun Xq rq Qq dq kq => o_guardy rfl rfl g11 (by decide) (o_faddr rfl rfl (by decide) (by decide) kq)) ?_
    refine c_val rfl rfl (fun Xq rq Qq dq kq => o_guardy rfl rfl g11 (by decide) (o_load 0 rfl rfl rfl rfl (by decide) kq)) ?_
    refine c_flo rfl rfl (fun Xq rq Qq dq kq => o_guardy rfl rfl g11 (by decide) (o_cmp rfl rfl rfl (by decide) kq)) ?_
    refine c_flo rfl rfl (fun Xq rq Qq dq kq => o_pickt rfl g11 rfl (by decide) kq) ?_
    refine c_flo rfl rfl (fun Xq rq Qq dq kq => o_move rfl (by decide) kq) ?_
    refine c_split (t := 13) rfl (fun g13 => ?_) (fun g13 => ?_)
    ·
      have g13 : _ = true := g13
      refine c_flo rfl rfl (fun Xq rq Qq dq kq => o_guardy rfl rfl g13 (by decide) (o_move rfl (by decide) kq)) ?_
      refine c_flo rfl rfl (fun Xq rq Qq dq kq => o_guardy rfl rfl g13 (by decide) (o_nilp rfl (by decide) kq)) ?_
      refine c_flo rfl rfl (fun Xq rq Qq dq kq => o_guardy rfl rfl g13 (by decide) (o_faddr rfl rfl (by decide) (by decide) kq)) ?_
      refine c_flo rfl rfl (fun Xq rq Qq dq kq => o_guardy rfl rfl g13 (by decide) (o_faddr rfl rfl (by decide) (by decide) kq)) ?_
      refine c_val rfl rfl (fun Xq rq Qq dq kq => o_guardy rfl rfl g13 (by decide) (o_load 1 rfl rfl rfl rfl (by decide) kq)) ?_
      refine c_flo rfl rfl (fun Xq rq Qq dq kq => o_guardy rfl rfl g13 (by decide) (o_faddr rfl rfl (by decide) (by decide) kq)) ?_
      refine c_val rfl rfl (fun Xq rq Qq dq kq => o_guardy rfl rfl g13 (by decide) (o_load 0 rfl rfl rfl rfl (by decide) kq)) ?_
      refine c_flo rfl rfl (fun Xq rq Qq dq kq => o_guardy rfl rfl g13 (by decide) (o_call1 rfl rfl EntC.out (by decide) (has_spec _ _ (by omega) (by omega)) kq)) ?_
      refine c_flo rfl rfl (fun Xq rq Qq dq kq => o_guardy rfl rfl g13 (by decide) (o_not rfl (by decide) kq)) ?_
      refine c_flo rfl rfl (fun Xq rq Qq dq kq => o_pickt rfl g13 rfl (by decide) kq) ?_
      refine c_bar ?_
      refine o_need rfl rfl (by decide) (fun hn24 => ?_) (fun hn24 => panK (.inr ⟨(by unfold splitW; rw [if_pos (by simp_all)]), rfl⟩))
      refine o_nil ?_
      refine h_seq ?_
      refine h_draw _ (List.nil_sublist _) [(0, .flo), (1, .flo), (2, .flo), (3, .flo), (4, .val), (5, .flo), (6, .val), (7, .flo), (8, .flo), (9, .flo), (10, .flo), (11, .flo), (12, .flo)] mixed (by kernel_rfl) ?_
      refine c_flo rfl rfl (fun Xq rq Qq dq kq => o_move rfl (by decide) kq) ?_
      refine c_flo rfl rfl (fun Xq rq Qq dq kq => o_nilp rfl (by decide) kq) ?_
      refine c_flo rfl rfl (fun Xq rq Qq dq kq => o_faddr rfl rfl (by decide) (by decide) kq) ?_
      refine c_flo rfl rfl (fun Xq rq Qq dq kq => o_faddr rfl rfl (by decide) (by decide) kq) ?_
      refine c_val rfl rfl (fun Xq rq Qq dq kq => o_load 1 rfl rfl rfl rfl (by decide) kq) ?_
      refine c_flo rfl rfl (fun Xq rq Qq dq kq => o_faddr rfl rfl (by decide) (by decide) kq) ?_
      refine c_val rfl rfl (fun Xq rq Qq dq kq => o_load 0 rfl rfl rfl rfl (by decide) kq) ?_
      refine c_flo rfl rfl (fun Xq rq Qq dq kq => o_call1 rfl rfl EntC.out (by decide) (only_spec _ _ _ _) kq) ?_
      refine c_flo rfl rfl (fun Xq rq Qq dq kq => o_move rfl (by decide) kq) ?_
      refine c_flo rfl rfl (fun Xq rq Qq dq kq => o_extract rfl rfl (by decide) kq) ?_
      refine c_flo rfl rfl (fun Xq rq Qq dq kq => o_extract rfl rfl (by decide) kq) ?_
      refine c_flo rfl rfl (fun Xq rq Qq dq kq => o_assign rfl (by decide) kq) ?_
      refine c_flo rfl rfl (fun Xq rq Qq dq kq => o_assign rfl (by decide) kq) ?_
      refine c_nil ?_
      refine h_seq ?_
      refine h_region ?_
      refine o_move rfl (by decide) ?_
      refine o_cmp rfl rfl rfl (by decide) ?_
      refine o_need rfl rfl (by decide) (fun hn38 => ?_) (fun hn38 => panK (.inr ⟨(by unfold splitW; rw [if_neg (by simp_all), if_pos (by simp_all)]), rfl⟩))
      refine o_nil ?_
      refine h_seq ?_
      refine h_region ?_
      refine o_move rfl (by decide) ?_
      refine o_faddr rfl rfl (by decide) (by decide) ?_
      refine o_load 0 rfl rfl rfl rfl (by decide) ?_
      refine o_faddr rfl rfl (by decide) (by decide) ?_
      refine o_load 0 rfl rfl rfl rfl (by decide) ?_
      refine o_call1 rfl rfl EntC.out (by decide) (swap_spec _ _ _ _) ?_
      refine o_move rfl (by decide) ?_
      refine o_extract rfl rfl (by decide) ?_
      refine o_extract rfl rfl (by decide) ?_
      refine o_assign rfl (by decide) ?_
      refine o_assign rfl (by decide) ?_
      refine o_nil ?_
      refine h_seq ?_
      refine h_region ?_
      refine o_move rfl (by decide) ?_
      refine o_cmp rfl rfl rfl (by decide) ?_
      refine o_need rfl rfl (by decide) (fun hn50 => ?_) (fun hn50 => panK (.inr ⟨(by unfold splitW; rw [if_neg (by simp_all), if_neg (by simp_all), if_pos (by simp_all)]), rfl⟩))
      refine o_nil ?_
      refine h_seq ?_
      refine h_region ?_
      refine o_move rfl (by decide) ?_
      refine o_move rfl (by decide) ?_
      refine o_nilp rfl (by decide) ?_
      refine o_faddr rfl rfl (by decide) (by decide) ?_
      refine o_faddr rfl rfl (by decide) (by decide) ?_
      refine o_load 1 rfl rfl rfl rfl (by decide) ?_
      refine o_move rfl (by decide) ?_
      refine o_call1 rfl rfl EntC.out (by decide) (overlay_spec _ _ _ _) ?_
      refine o_extract rfl rfl (by decide) ?_
      refine o_extract rfl rfl (by decide) ?_
      refine o_callRE (h2 := [(x9, .box 36 [I e.kind, I e.t, I e.a, I e.b, I e.c, I e.f, I e.to, I e.m])]) rfl rfl rfl EntC.out (by decide) (set_spec w f x b1 b2 c1 c2 _ _ _) (fun v h' hr => ?_) (fun c h' hr => ?_)
      rotate_left
      ·
        obtain ⟨_, h2, _⟩ | ⟨h1, h2⟩ := hr
        · cases h2
        · cases h2; exact panK (.inr ⟨(by unfold splitW; rw [if_neg (by simp_all), if_neg (by simp_all), if_neg (by simp_all), if_pos (by simp_all)]), rfl⟩)
      obtain ⟨hs, h2, rfl⟩ | ⟨_, h2⟩ := hr
      rotate_left
      · cases h2
      cases h2
      refine o_nil ?_
      refine h_seq ?_
      refine h_draw _ (.cons_cons _ (.cons _ (.cons _ (.cons _ (List.nil_sublist _))))) [(0, .flo), (1, .flo), (2, .flo), (3, .flo), (4, .val), (5, .flo), (6, .box), (7, .flo), (8, .flo), (9, .flo), (10, .flo), (11, .flo), (12, .sto)] mixed (by kernel_rfl) ?_
      refine c_flo rfl rfl (fun Xq rq Qq dq kq => o_move rfl (by decide) kq) ?_
      refine c_flo rfl rfl (fun Xq rq Qq dq kq => o_nilp rfl (by decide) kq) ?_
      refine c_flo rfl rfl (fun Xq rq Qq dq kq => o_faddr rfl rfl (by decide) (by decide) kq) ?_
      refine c_flo rfl rfl (fun Xq rq Qq dq kq => o_faddr rfl rfl (by decide) (by decide) kq) ?_
      refine c_val rfl rfl (fun Xq rq Qq dq kq => o_load 1 rfl rfl rfl rfl (by decide) kq) ?_
      refine c_flo rfl rfl (fun Xq rq Qq dq kq => o_faddr rfl rfl (by decide) (by decide) kq) ?_
      refine c_box rfl rfl (fun Xq rq Qq dq kq => o_load 0 rfl rfl rfl rfl (by decide) kq) ?_
      refine c_flo rfl rfl (fun Xq rq Qq dq kq => o_shl rfl rfl (by omega) (by omega) (pow_small hb0 hb7) (by decide) kq) ?_
      refine c_flo rfl rfl (fun Xq rq Qq dq kq => o_bits (by decide) rfl rfl (by decide) kq) ?_
      refine c_flo rfl rfl (fun Xq rq Qq dq kq => o_nilp rfl (by decide) kq) ?_
      refine c_flo rfl rfl (fun Xq rq Qq dq kq => o_faddr rfl rfl (by decide) (by decide) kq) ?_
      refine c_flo rfl rfl (fun Xq rq Qq dq kq => o_faddr rfl rfl (by decide) (by decide) kq) ?_
      refine c_sto (.cons_cons _ (.cons _ (.cons _ (.cons _ (List.nil_sublist _))))) rfl rfl (fun Xq rq Qq dq kq => o_store 1 rfl rfl rfl rfl rfl rfl kq) ?_
      refine c_nil ?_
      refine h_heap (h' := (x9, .box 36 [I e.kind, I e.t, I e.a, I e.b, I e.c, I e.f, I e.to, I e.m]) :: WH { w with blocks := (overlayB w.blocks (swapB (onlyB w.blocks e.f e.to).1 e.a e.b).1).1, alive := bits64 .or w.alive (1 * 2 ^ e.b.toNat) } (overlayB w.blocks (swapB (onlyB w.blocks e.f e.to).1 e.a e.b).1).1.isEmpty x b1 b2 c1 c2) (by simp only [WH, Nat.zero_add, setEnc, windBal] <;> rfl) ?_
      refine h_seq ?_
      refine h_draw _ (.cons_cons _ (.cons _ (.cons _ (.cons _ (List.nil_sublist _))))) [(0, .flo), (1, .flo), (2, .flo), (3, .flo), (4, .val), (5, .flo), (6, .box), (7, .flo), (8, .flo), (9, .flo), (10, .flo), (11, .flo), (12, .sto)] mixed (by kernel_rfl) ?_
      refine c_flo rfl rfl (fun Xq rq Qq dq kq => o_move rfl (by decide) kq) ?_
      refine c_flo rfl rfl (fun Xq rq Qq dq kq => o_nilp rfl (by decide) kq) ?_
      refine c_flo rfl rfl (fun Xq rq Qq dq kq => o_faddr rfl rfl (by decide) (by decide) kq) ?_
      refine c_flo rfl rfl (fun Xq rq Qq dq kq => o_faddr rfl rfl (by decide) (by decide) kq) ?_
      refine c_val rfl rfl (fun Xq rq Qq dq kq => o_load 1 rfl rfl rfl rfl (by decide) kq) ?_
      refine c_flo rfl rfl (fun Xq rq Qq dq kq => o_faddr rfl rfl (by decide) (by decide) kq) ?_
      refine c_box rfl rfl (fun Xq rq Qq dq kq => o_load 0 rfl rfl rfl rfl (by decide) kq) ?_
      refine c_flo rfl rfl (fun Xq rq Qq dq kq => o_shl rfl rfl (by omega) (by omega) (pow_small hb0 hb7) (by decide) kq) ?_
      refine c_flo rfl rfl (fun Xq rq Qq dq kq => o_bits (by decide) rfl rfl (by decide) kq) ?_
      refine c_flo rfl rfl (fun Xq rq Qq dq kq => o_nilp rfl (by decide) kq) ?_
      refine c_flo rfl rfl (fun Xq rq Qq dq kq => o_faddr rfl rfl (by decide) (by decide) kq) ?_
      refine c_flo rfl rfl (fun Xq rq Qq dq kq => o_faddr rfl rfl (by decide) (by decide) kq) ?_
      refine c_sto (.cons_cons _ (.cons _ (.cons _ (.cons _ (List.nil_sublist _))))) rfl rfl (fun Xq rq Qq dq kq => o_store 1 rfl rfl rfl rfl rfl rfl kq) ?_
      refine c_nil ?_
      refine h_heap (h' := (x9, .box 36 [I e.kind, I e.t, I e.a, I e.b, I e.c, I e.f, I e.to, I e.m]) :: WH { w with blocks := (overlayB w.blocks (swapB (onlyB w.blocks e.f e.to).1 e.a e.b).1).1, alive := bits64 .or w.alive (1 * 2 ^ e.b.toNat), ever := bits64 .or w.ever (1 * 2 ^ e.b.toNat) } (overlayB w.blocks (swapB (onlyB w.blocks e.f e.to).1 e.a e.b).1).1.isEmpty x b1 b2 c1 c2) (by simp only [WH, Nat.zero_add, setEnc, windBal] <;> rfl) ?_
      refine h_seq ?_
      refine h_draw _ (.cons_cons _ (.cons_cons _ (.cons _ (.cons _ (List.nil_sublist _))))) [(0, .flo), (1, .flo), (2, .flo), (3, .flo), (4, .box), (5, .flo), (6, .box), (7, .flo), (8, .val), (9, .flo), (10, .box), (11, .flo), (12, .flo), (13, .sto)] mixed (by kernel_rfl) ?_
      refine c_flo rfl rfl (fun Xq rq Qq dq kq => o_move rfl (by decide) kq) ?_
      refine c_flo rfl rfl (fun Xq rq Qq dq kq => o_nilp rfl (by decide) kq) ?_
      refine c_flo rfl rfl (fun Xq rq Qq dq kq => o_faddr rfl rfl (by decide) (by decide) kq) ?_
      refine c_flo rfl rfl (fun Xq rq Qq dq kq => o_faddr rfl rfl (by decide) (by decide) kq) ?_
      refine c_box rfl rfl (fun Xq rq Qq dq kq => o_load 1 rfl rfl rfl rfl (by decide) kq) ?_
      refine c_flo rfl rfl (fun Xq rq Qq dq kq => o_faddr rfl rfl (by decide) (by decide) kq) ?_
      refine c_box rfl rfl (fun Xq rq Qq dq kq => o_load 0 rfl rfl rfl rfl (by decide) kq) ?_
      refine c_flo rfl rfl (fun Xq rq Qq dq kq => o_idxo rfl rfl (by omega) (by omega) (by decide) kq) ?_
      refine c_val rfl rfl (fun Xq rq Qq dq kq => o_loade 2 rfl rfl (eltW (by simp [hv.lb, hv.ll, windBal]; omega)) rfl rfl (by decide) kq) ?_
      refine c_flo rfl rfl (fun Xq rq Qq dq kq => o_faddr rfl rfl (by decide) (by decide) kq) ?_
      refine c_box rfl rfl (fun Xq rq Qq dq kq => o_load 0 rfl rfl rfl rfl (by decide) kq) ?_
      refine c_flo rfl rfl (fun Xq rq Qq dq kq => o_sub rfl rfl (by have h1 := bal_bound hv e.a.toNat; have h2 := full_money (e := e) (by simp_all); unfold in64; (try dsimp only); omega) (by decide) kq) ?_
      refine c_flo rfl rfl (fun Xq rq Qq dq kq => o_idxo rfl rfl (by omega) (by omega) (by decide) kq) ?_
      refine c_sto (.cons_cons _ (.cons_cons _ (.cons _ (.cons _ (List.nil_sublist _))))) rfl rfl (fun Xq rq Qq dq kq => o_storee 2 rfl rfl (eltW (by simp [hv.lb, hv.ll, windBal]; omega)) rfl rfl rfl rfl (by simp [encI]) kq) ?_
      refine c_nil ?_
      refine h_heap (h' := (x9, .box 36 [I e.kind, I e.t, I e.a, I e.b, I e.c, I e.f, I e.to, I e.m]) :: WH { alive := bits64 .or w.alive (1 * 2 ^ e.b.toNat), ever := bits64 .or w.ever (1 * 2 ^ e.b.toNat), blocks := (overlayB w.blocks (swapB (onlyB w.blocks e.f e.to).1 e.a e.b).1).1, bal := w.bal.set e.a.toNat (w.bal.getD e.a.toNat 0 - e.m), lev := w.lev } (overlayB w.blocks (swapB (onlyB w.blocks e.f e.to).1 e.a e.b).1).1.isEmpty x b1 b2 c1 c2) (by simp only [WH, Nat.zero_add, setEnc, windBal] <;> rfl) ?_
      refine h_draw _ (.cons_cons _ (.cons_cons _ (.cons _ (.cons _ (List.nil_sublist _))))) [(0, .flo), (1, .flo), (2, .flo), (3, .flo), (4, .box), (5, .flo), (6, .box), (7, .flo), (8, .flo), (9, .flo), (10, .flo), (11, .box), (12, .flo), (13, .box), (14, .flo), (15, .box), (16, .flo), (17, .flo), (18, .flo), (19, .flo), (20, .box), (21, .flo), (22, .box), (23, .flo), (24, .val), (25, .flo), (26, .sto), (27, .flo), (28, .sto)] mixed (by kernel_rfl) ?_
      refine c_flo rfl rfl (fun Xq rq Qq dq kq => o_move rfl (by decide) kq) ?_
      refine c_flo rfl rfl (fun Xq rq Qq dq kq => o_nilp rfl (by decide) kq) ?_
      refine c_flo rfl rfl (fun Xq rq Qq dq kq => o_faddr rfl rfl (by decide) (by decide) kq) ?_
      refine c_flo rfl rfl (fun Xq rq Qq dq kq => o_faddr rfl rfl (by decide) (by decide) kq) ?_
      refine c_box rfl rfl (fun Xq rq Qq dq kq => o_load 1 rfl rfl rfl rfl (by decide) kq) ?_
      refine c_flo rfl rfl (fun Xq rq Qq dq kq => o_faddr rfl rfl (by decide) (by decide) kq) ?_
      refine c_box rfl rfl (fun Xq rq Qq dq kq => o_load 0 rfl rfl rfl rfl (by decide) kq) ?_
      refine c_flo rfl rfl (fun Xq rq Qq dq kq => o_move rfl (by decide) kq) ?_
      refine c_flo rfl rfl (fun Xq rq Qq dq kq => o_nilp rfl (by decide) kq) ?_
      refine c_flo rfl rfl (fun Xq rq Qq dq kq => o_faddr rfl rfl (by decide) (by decide) kq) ?_
      refine c_flo rfl rfl (fun Xq rq Qq dq kq => o_faddr rfl rfl (by decide) (by decide) kq) ?_
      refine c_box rfl rfl (fun Xq rq Qq dq kq => o_load 1 rfl rfl rfl rfl (by decide) kq) ?_
      refine c_flo rfl rfl (fun Xq rq Qq dq kq => o_faddr rfl rfl (by decide) (by decide) kq) ?_
      refine c_box rfl rfl (fun Xq rq Qq dq kq => o_load 0 rfl rfl rfl rfl (by decide) kq) ?_
      refine c_flo rfl rfl (fun Xq rq Qq dq kq => o_faddr rfl rfl (by decide) (by decide) kq) ?_
      refine c_box rfl rfl (fun Xq rq Qq dq kq => o_load 0 rfl rfl rfl rfl (by decide) kq) ?_
      refine c_flo rfl rfl (fun Xq rq Qq dq kq => o_move rfl (by decide) kq) ?_
      refine c_flo rfl rfl (fun Xq rq Qq dq kq => o_nilp rfl (by decide) kq) ?_
      refine c_flo rfl rfl (fun Xq rq Qq dq kq => o_faddr rfl rfl (by decide) (by decide) kq) ?_
      refine c_flo rfl rfl (fun Xq rq Qq dq kq => o_faddr rfl rfl (by decide) (by decide) kq) ?_
      refine c_box rfl rfl (fun Xq rq Qq dq kq => o_load 1 rfl rfl rfl rfl (by decide) kq) ?_
      refine c_flo rfl rfl (fun Xq rq Qq dq kq => o_faddr rfl rfl (by decide) (by decide) kq) ?_
      refine c_box rfl rfl (fun Xq rq Qq dq kq => o_load 0 rfl rfl rfl rfl (by decide) kq) ?_
      refine c_flo rfl rfl (fun Xq rq Qq dq kq => o_idxo rfl rfl (by omega) (by omega) (by decide) kq) ?_
      refine c_val rfl rfl (fun Xq rq Qq dq kq => o_loade 3 rfl rfl (eltW (by simp [hv.lb, hv.ll, windBal]; omega)) rfl rfl (by decide) kq) ?_
      refine c_flo rfl rfl (fun Xq rq Qq dq kq => o_idxo rfl rfl (by omega) (by omega) (by decide) kq) ?_
      refine c_sto (.cons_cons _ (.cons_cons _ (.cons _ (.cons _ (List.nil_sublist _))))) rfl rfl (fun Xq rq Qq dq kq => o_storee 2 rfl rfl (eltW (by simp [hv.lb, hv.ll, windBal]; omega)) rfl rfl rfl rfl (by simp [encI]) kq) ?_
      refine c_flo rfl rfl (fun Xq rq Qq dq kq => o_idxo rfl rfl (by omega) (by omega) (by decide) kq) ?_
      refine c_sto (.cons_cons _ (.cons_cons _ (.cons _ (.cons _ (List.nil_sublist _))))) rfl rfl (fun Xq rq Qq dq kq => o_storee 3 rfl rfl (eltW (by simp [hv.lb, hv.ll, windBal]; omega)) rfl rfl rfl rfl (by simp [encI]) kq) ?_
      refine c_nil ?_
      exact retS0 _ (.cons _ (.refl _)) (.inl ⟨_, _, (by unfold splitW; rw [if_neg (by simp_all), if_neg (by simp_all), if_neg (by simp_all), if_neg (by simp_all)]), rfl, by simp only [WH, Nat.zero_add, setEnc] <;> rfl⟩)
    ·
      have g13 : _ = false := g13
      refine c_flo rfl rfl (fun Xq rq Qq dq kq => o_guardn rfl rfl g13 (by decide) kq) ?_
      refine c_flo rfl rfl (fun Xq rq Qq dq kq => o_guardn rfl rfl g13 (by decide) kq) ?_
      refine c_flo rfl rfl (fun Xq rq Qq dq kq => o_guardn rfl rfl g13 (by decide) kq) ?_
      refine c_flo rfl rfl (fun Xq rq Qq dq kq => o_guardn rfl rfl g13 (by decide) kq) ?_
      refine c_val rfl rfl (fun Xq rq Qq dq kq => o_guardn rfl rfl g13 (by decide) kq) ?_
      refine c_flo rfl rfl (fun Xq rq Qq dq kq => o_guardn rfl rfl g13 (by decide) kq) ?_
      refine c_val rfl rfl (fun Xq rq Qq dq kq => o_guardn rfl rfl g13 (by decide) kq) ?_
      refine c_flo rfl rfl (fun Xq rq Qq dq kq => o_guardn rfl rfl g13 (by decide) kq) ?_
      refine c_flo rfl rfl (fun Xq rq Qq dq kq => o_guardn rfl rfl g13 (by decide) kq) ?_
      refine c_flo rfl rfl (fun Xq rq Qq dq kq => o_pickf rfl g13 rfl (by decide) kq) ?_
      refine c_bar ?_
      refine o_need rfl rfl (by decide) (fun hn24 => absurd hn24 (by simp_all)) (fun hn24 => panK (.inr ⟨(by unfold splitW; rw [if_pos (by simp_all)]), rfl⟩))
  ·
    have g11 : _ = false := g11
    refine c_flo rfl rfl (fun Xq rq Qq dq kq => o_guardn rfl rfl g11 (by decide) kq) ?_
    refine c_val rfl rfl (fun Xq rq Qq dq kq => o_guardn rfl rfl g11 (by decide) kq) ?_
    refine c_flo rfl rfl (fun Xq rq Qq dq kq => o_guardn rfl rfl g11 (by decide) kq) ?_
    refine c_flo rfl rfl (fun Xq rq Qq dq kq => o_pickf rfl g11 rfl (by decide) kq) ?_
    refine c_flo rfl rfl (fun Xq rq Qq dq kq => o_move rfl (by decide) kq) ?_
    refine c_flo rfl rfl (fun Xq rq Qq dq kq => o_guardn rfl rfl rfl (by decide) kq) ?_
    refine c_flo rfl rfl (fun Xq rq Qq dq kq => o_guardn rfl rfl rfl (by decide) kq) ?_
    refine c_flo rfl rfl (fun Xq rq Qq dq kq => o_guardn rfl rfl rfl (by decide) kq) ?_
    refine c_flo rfl rfl (fun Xq rq Qq dq kq => o_guardn rfl rfl rfl (by decide) kq) ?_
    refine c_val rfl rfl (fun Xq rq Qq dq kq => o_guardn rfl rfl rfl (by decide) kq) ?_
    refine c_flo rfl rfl (fun Xq rq Qq dq kq => o_guardn rfl rfl rfl (by decide) kq) ?_
    refine c_val rfl rfl (fun Xq rq Qq dq kq => o_guardn rfl rfl rfl (by decide) kq) ?_
    refine c_flo rfl rfl (fun Xq rq Qq dq kq => o_guardn rfl rfl rfl (by decide) kq) ?_
    refine c_flo rfl rfl (fun Xq rq Qq dq kq => o_guardn rfl rfl rfl (by decide) kq) ?_
    refine c_flo rfl rfl (fun Xq rq Qq dq kq => o_pickf rfl rfl rfl (by decide) kq) ?_
    refine c_bar ?_
    refine o_need rfl rfl (by decide) (fun hn24 => absurd hn24 (by simp_all)) (fun hn24 => panK (.inr ⟨(by unfold splitW; rw [if_pos (by simp_all)]), rfl⟩))

theorem windUp_do (w : Wd) (f : Bool) (x b1 b2 c1 c2 : Nat) (e : Ev) (hv : VParts w) (ha0 : 0 ≤ e.a) (ha7 : e.a ≤ 7) (hb0 : 0 ≤ e.b) (hb7 : e.b ≤ 7) (hc0 : 0 ≤ e.c) (hc7 : e.c ≤ 7) : FnE Try.prog 80 [.ptr x 0, encE e] (WH w f x b1 b2 c1 c2) (DoR (windW w e) x b1 b2 c1 c2) := by
  refine fnE_intro (N := 133) Try.func80 rfl rfl rfl ?_
  intro X
  refine h_seq ?_
  refine h_region ?_
  refine o_box rfl rfl (by decide) fun x17 => ?_
  refine o_nil ?_
  refine h_seq ?_
  refine h_draw _ (List.nil_sublist _) [(0, .val), (1, .flo), (2, .flo), (3, .flo), (4, .flo), (5, .flo), (6, .flo), (7, .val), (8, .flo), (9, .val), (10, .flo), (11, .flo), (12, .flo), (13, .flo), (14, .flo), (15, .flo), (16, .flo), (17, .val), (18, .flo), (19, .val), (20, .flo), (21, .flo), (22, .flo), (23, .flo), (24, .val), (25, .flo), (26, .val), (27, .flo), (28, .flo), (29, .flo), (30, .flo), (31, .val), (32, .flo), (33, .val), (34, .flo), (35, .flo), (36, .bar)] mixed (by kernel_rfl) ?_
  refine c_val rfl rfl (fun Xq rq Qq dq kq => o_load 0 rfl rfl rfl rfl (by decide) kq) ?_
  refine c_flo rfl rfl (fun Xq rq Qq dq kq => o_call1 rfl rfl EntC.out (by decide) (isFull_spec _) kq) ?_
  refine c_flo rfl rfl (fun Xq rq Qq dq kq => o_move rfl (by decide) kq) ?_
  refine c_split (t := 9) rfl (fun g19 => ?_) (fun g19 => ?_)
  ·
    have g19 : _ = true := g19
    refine c_flo rfl rfl (fun Xq rq Qq dq kq => o_guardy rfl rfl g19 (by decide) (o_move rfl (by decide) kq)) ?_
    refine c_flo rfl rfl (fun Xq rq Qq dq kq => o_guardy rfl rfl g19 (by decide) (o_nilp rfl (by decide) kq)) ?_
    refine c_flo rfl rfl (fun Xq rq Qq dq kq => o_guardy rfl rfl g19 (by decide) (o_faddr rfl rfl (by decide) (by decide) kq)) ?_
    refine c_flo rfl rfl (fun Xq rq Qq dq kq => o_guardy rfl rfl g19 (by decide) (o_faddr rfl rfl (by decide) (by decide) kq)) ?_
    refine c_val rfl rfl (fun Xq rq Qq dq kq => o_guardy rfl rfl g19 (by decide) (o_load 1 rfl rfl rfl rfl (by decide) kq)) ?_
    refine c_flo rfl rfl (fun Xq rq Qq dq kq => o_guardy rfl rfl g19 (by decide) (o_faddr rfl rfl (by decide) (by decide) kq)) ?_
    refine c_val rfl rfl (fun Xq rq Qq dq kq => o_guardy rfl rfl g19 (by decide) (o_load 0 rfl rfl rfl rfl (by decide) kq)) ?_
    refine c_flo rfl rfl (fun Xq rq Qq dq kq => o_guardy rfl rfl g19 (by decide) (o_call1 rfl rfl EntC.out (by decide) (has_spec _ _ (by omega) (by omega)) kq)) ?_
    refine c_flo rfl rfl (fun Xq rq Qq dq kq => o_pickt rfl g19 rfl (by decide) kq) ?_
    refine c_flo rfl rfl (fun Xq rq Qq dq kq => o_move rfl (by decide) kq) ?_
    refine c_split (t := 19) rfl (fun g21 => ?_) (fun g21 => ?_)
    ·
      have g21 : _ = true := g21
      refine c_flo rfl rfl (fun Xq rq Qq dq kq => o_guardy rfl rfl g21 (by decide) (o_move rfl (by decide) kq)) ?_
      refine c_flo rfl rfl (fun Xq rq Qq dq kq => o_guardy rfl rfl g21 (by decide) (o_nilp rfl (by decide) kq)) ?_
      refine c_flo rfl rfl (fun Xq rq Qq dq kq => o_guardy rfl rfl g21 (by decide) (o_faddr rfl rfl (by decide) (by decide) kq)) ?_
      refine c_flo rfl rfl (fun Xq rq Qq dq kq => o_guardy rfl rfl g21 (by decide) (o_faddr rfl rfl (by decide) (by decide) kq)) ?_
      refine c_val rfl rfl (fun Xq rq Qq dq kq => o_guardy rfl rfl g21 (by decide) (o_load 1 rfl rfl rfl rfl (by decide) kq)) ?_
      refine c_flo rfl rfl (fun Xq rq Qq dq kq => o_guardy rfl rfl g21 (by decide) (o_faddr rfl rfl (by decide) (by decide) kq)) ?_
      refine c_val rfl rfl (fun Xq rq Qq dq kq => o_guardy rfl rfl g21 (by decide) (o_load 0 rfl rfl rfl rfl (by decide) kq)) ?_
      refine c_flo rfl rfl (fun Xq rq Qq dq kq => o_guardy rfl rfl g21 (by decide) (o_call1 rfl rfl EntC.out (by decide) (has_spec _ _ (by omega) (by omega)) kq)) ?_
      refine c_flo rfl rfl (fun Xq rq Qq dq kq => o_pickt rfl g21 rfl (by decide) kq) ?_
      refine c_flo rfl rfl (fun Xq rq Qq dq kq => o_move rfl (by decide) kq) ?_
      refine c_split (t := 29) rfl (fun g23 => ?_) (fun g23 => ?_)
      ·
        have g23 : _ = true := g23
        refine c_flo rfl rfl (fun Xq rq Qq dq kq => o_guardy rfl rfl g23 (by decide) (o_faddr rfl rfl (by decide) (by decide) kq)) ?_
        refine c_val rfl rfl (fun Xq rq Qq dq kq => o_guardy rfl rfl g23 (by decide) (o_load 0 rfl rfl rfl rfl (by decide) kq)) ?_
        refine c_flo rfl rfl (fun Xq rq Qq dq kq => o_guardy rfl rfl g23 (by decide) (o_faddr rfl rfl (by decide) (by decide) kq)) ?_
        refine c_val rfl rfl (fun Xq rq Qq dq kq => o_guardy rfl rfl g23 (by decide) (o_load 0 rfl rfl rfl rfl (by decide) kq)) ?_
        refine c_flo rfl rfl (fun Xq rq Qq dq kq => o_guardy rfl rfl g23 (by decide) (o_cmp rfl rfl rfl (by decide) kq)) ?_
        refine c_flo rfl rfl (fun Xq rq Qq dq kq => o_pickt rfl g23 rfl (by decide) kq) ?_
        refine c_flo rfl rfl (fun Xq rq Qq dq kq => o_move rfl (by decide) kq) ?_
        refine c_split (t := 36) rfl (fun g25 => ?_) (fun g25 => ?_)
        ·
          have g25 : _ = true := g25
          refine c_flo rfl rfl (fun Xq rq Qq dq kq => o_guardy rfl rfl g25 (by decide) (o_faddr rfl rfl (by decide) (by decide) kq)) ?_
          refine c_val rfl rfl (fun Xq rq Qq dq kq => o_guardy rfl rfl g25 (by decide) (o_load 0 rfl rfl rfl rfl (by decide) kq)) ?_
          refine c_flo rfl rfl (fun Xq rq Qq dq kq => o_guardy rfl rfl g25 (by decide) (o_faddr rfl rfl (by decide) (by decide) kq)) ?_
          refine c_val rfl rfl (fun Xq rq Qq dq kq => o_guardy rfl rfl g25 (by decide) (o_load 0 rfl rfl rfl rfl (by decide) kq)) ?_
          refine c_flo rfl rfl (fun Xq rq Qq dq kq => o_guardy rfl rfl g25 (by decide) (o_cmp rfl rfl rfl (by decide) kq)) ?_
          refine c_flo rfl rfl (fun Xq rq Qq dq kq => o_pickt rfl g25 rfl (by decide) kq) ?_
          refine c_bar ?_
          refine o_need rfl rfl (by decide) (fun hn43 => ?_) (fun hn43 => panK (.inr ⟨(by unfold windW; rw [if_pos (by simp_all)]), rfl⟩))
          refine o_nil ?_
          refine h_seq ?_
          refine h_draw _ (List.nil_sublist _) [(0, .flo), (1, .flo), (2, .flo), (3, .flo), (4, .val), (5, .flo), (6, .val), (7, .flo), (8, .flo), (9, .flo), (10, .flo), (11, .flo), (12, .flo)] mixed (by kernel_rfl) ?_
          refine c_flo rfl rfl (fun Xq rq Qq dq kq => o_move rfl (by decide) kq) ?_
          refine c_flo rfl rfl (fun Xq rq Qq dq kq => o_nilp rfl (by decide) kq) ?_
          refine c_flo rfl rfl (fun Xq rq Qq dq kq => o_faddr rfl rfl (by decide) (by decide) kq) ?_
          refine c_flo rfl rfl (fun Xq rq Qq dq kq => o_faddr rfl rfl (by decide) (by decide) kq) ?_
          refine c_val rfl rfl (fun Xq rq Qq dq kq => o_load 1 rfl rfl rfl rfl (by decide) kq) ?_
          refine c_flo rfl rfl (fun Xq rq Qq dq kq => o_faddr rfl rfl (by decide) (by decide) kq) ?_
          refine c_val rfl rfl (fun Xq rq Qq dq kq => o_load 0 rfl rfl rfl rfl (by decide) kq) ?_
          refine c_flo rfl rfl (fun Xq rq Qq dq kq => o_call1 rfl rfl EntC.out (by decide) (only_spec _ _ _ _) kq) ?_
          refine c_flo rfl rfl (fun Xq rq Qq dq kq => o_move rfl (by decide) kq) ?_
          refine c_flo rfl rfl (fun Xq rq Qq dq kq => o_extract rfl rfl (by decide) kq) ?_
          refine c_flo rfl rfl (fun Xq rq Qq dq kq => o_extract rfl rfl (by decide) kq) ?_
          refine c_flo rfl rfl (fun Xq rq Qq dq kq => o_assign rfl (by decide) kq) ?_
          refine c_flo rfl rfl (fun Xq rq Qq dq kq => o_assign rfl (by decide) kq) ?_
          refine c_nil ?_
          refine h_seq ?_
          refine h_region ?_
          refine o_move rfl (by decide) ?_
          refine o_cmp rfl rfl rfl (by decide) ?_
          refine o_need rfl rfl (by decide) (fun hn57 => ?_) (fun hn57 => panK (.inr ⟨(by unfold windW; rw [if_neg (by simp_all), if_pos (by simp_all)]), rfl⟩))
          refine o_nil ?_
          refine h_seq ?_
          refine h_region ?_
          refine o_move rfl (by decide) ?_
          refine o_faddr rfl rfl (by decide) (by decide) ?_
          refine o_load 0 rfl rfl rfl rfl (by decide) ?_
          refine o_faddr rfl rfl (by decide) (by decide) ?_
          refine o_load 0 rfl rfl rfl rfl (by decide) ?_
          refine o_call1 rfl rfl EntC.out (by decide) (swap_spec _ _ _ _) ?_
          refine o_move rfl (by decide) ?_
          refine o_extract rfl rfl (by decide) ?_
          refine o_extract rfl rfl (by decide) ?_
          refine o_assign rfl (by decide) ?_
          refine o_assign rfl (by decide) ?_
          refine o_nil ?_
          refine h_seq ?_
          refine h_region ?_
          refine o_move rfl (by decide) ?_
          refine o_cmp rfl rfl rfl (by decide) ?_
          refine o_need rfl rfl (by decide) (fun hn69 => ?_) (fun hn69 => panK (.inr ⟨(by unfold windW; rw [if_neg (by simp_all), if_neg (by simp_all), if_pos (by simp_all)]), rfl⟩))
          refine o_nil ?_
          refine h_seq ?_
          refine h_draw _ (List.nil_sublist _) [(0, .flo), (1, .flo), (2, .flo), (3, .flo), (4, .val), (5, .flo), (6, .val), (7, .flo), (8, .val), (9, .flo), (10, .flo), (11, .flo), (12, .flo), (13, .flo), (14, .flo)] mixed (by kernel_rfl) ?_
          refine c_flo rfl rfl (fun Xq rq Qq dq kq => o_move rfl (by decide) kq) ?_
          refine c_flo rfl rfl (fun Xq rq Qq dq kq => o_nilp rfl (by decide) kq) ?_
          refine c_flo rfl rfl (fun Xq rq Qq dq kq => o_faddr rfl rfl (by decide) (by decide) kq) ?_
          refine c_flo rfl rfl (fun Xq rq Qq dq kq => o_faddr rfl rfl (by decide) (by decide) kq) ?_
          refine c_val rfl rfl (fun Xq rq Qq dq kq => o_load 1 rfl rfl rfl rfl (by decide) kq) ?_
          refine c_flo rfl rfl (fun Xq rq Qq dq kq => o_faddr rfl rfl (by decide) (by decide) kq) ?_
          refine c_val rfl rfl (fun Xq rq Qq dq kq => o_load 0 rfl rfl rfl rfl (by decide) kq) ?_
          refine c_flo rfl rfl (fun Xq rq Qq dq kq => o_faddr rfl rfl (by decide) (by decide) kq) ?_
          refine c_val rfl rfl (fun Xq rq Qq dq kq => o_load 0 rfl rfl rfl rfl (by decide) kq) ?_
          refine c_flo rfl rfl (fun Xq rq Qq dq kq => o_call1 rfl rfl EntC.out (by decide) (swap_spec _ _ _ _) kq) ?_
          refine c_flo rfl rfl (fun Xq rq Qq dq kq => o_move rfl (by decide) kq) ?_
          refine c_flo rfl rfl (fun Xq rq Qq dq kq => o_extract rfl rfl (by decide) kq) ?_
          refine c_flo rfl rfl (fun Xq rq Qq dq kq => o_extract rfl rfl (by decide) kq) ?_
          refine c_flo rfl rfl (fun Xq rq Qq dq kq => o_assign rfl (by decide) kq) ?_
          refine c_flo rfl rfl (fun Xq rq Qq dq kq => o_assign rfl (by decide) kq) ?_
          refine c_nil ?_
          refine h_seq ?_
          refine h_region ?_
          refine o_move rfl (by decide) ?_
          refine o_cmp rfl rfl rfl (by decide) ?_
          refine o_need rfl rfl (by decide) (fun hn85 => ?_) (fun hn85 => panK (.inr ⟨(by unfold windW; rw [if_neg (by simp_all), if_neg (by simp_all), if_neg (by simp_all), if_pos (by simp_all)]), rfl⟩))
          refine o_nil ?_
          refine h_seq ?_
          refine h_region ?_
          refine o_move rfl (by decide) ?_
          refine o_move rfl (by decide) ?_
          refine o_move rfl (by decide) ?_
          refine o_call1 rfl rfl EntC.out (by decide) (overlay_spec _ _ _ _) ?_
          refine o_extract rfl rfl (by decide) ?_
          refine o_extract rfl rfl (by decide) ?_
          refine o_callRE (h2 := [(x17, .box 36 [I e.kind, I e.t, I e.a, I e.b, I e.c, I e.f, I e.to, I e.m])]) rfl rfl rfl EntC.out (by decide) (set_spec w f x b1 b2 c1 c2 _ _ _) (fun v h' hr => ?_) (fun c h' hr => ?_)
          rotate_left
          ·
            obtain ⟨_, h2, _⟩ | ⟨h1, h2⟩ := hr
            · cases h2
            · cases h2; exact panK (.inr ⟨(by unfold windW; rw [if_neg (by simp_all), if_neg (by simp_all), if_neg (by simp_all), if_neg (by simp_all), if_pos (by simp_all)]), rfl⟩)
          obtain ⟨hs, h2, rfl⟩ | ⟨_, h2⟩ := hr
          rotate_left
          · cases h2
          cases h2
          refine o_nil ?_
          refine h_seq ?_
          refine h_draw _ (.cons_cons _ (.cons_cons _ (.cons _ (.cons _ (List.nil_sublist _))))) [(0, .flo), (1, .flo), (2, .flo), (3, .flo), (4, .box), (5, .flo), (6, .box), (7, .flo), (8, .val), (9, .flo), (10, .box), (11, .flo), (12, .flo), (13, .sto)] mixed (by kernel_rfl) ?_
          refine c_flo rfl rfl (fun Xq rq Qq dq kq => o_move rfl (by decide) kq) ?_
          refine c_flo rfl rfl (fun Xq rq Qq dq kq => o_nilp rfl (by decide) kq) ?_
          refine c_flo rfl rfl (fun Xq rq Qq dq kq => o_faddr rfl rfl (by decide) (by decide) kq) ?_
          refine c_flo rfl rfl (fun Xq rq Qq dq kq => o_faddr rfl rfl (by decide) (by decide) kq) ?_
          refine c_box rfl rfl (fun Xq rq Qq dq kq => o_load 1 rfl rfl rfl rfl (by decide) kq) ?_
          refine c_flo rfl rfl (fun Xq rq Qq dq kq => o_faddr rfl rfl (by decide) (by decide) kq) ?_
          refine c_box rfl rfl (fun Xq rq Qq dq kq => o_load 0 rfl rfl rfl rfl (by decide) kq) ?_
          refine c_flo rfl rfl (fun Xq rq Qq dq kq => o_idxo rfl rfl (by omega) (by omega) (by decide) kq) ?_
          refine c_val rfl rfl (fun Xq rq Qq dq kq => o_loade 2 rfl rfl (eltW (by simp [hv.lb, hv.ll, windBal]; omega)) rfl rfl (by decide) kq) ?_
          refine c_flo rfl rfl (fun Xq rq Qq dq kq => o_faddr rfl rfl (by decide) (by decide) kq) ?_
          refine c_box rfl rfl (fun Xq rq Qq dq kq => o_load 0 rfl rfl rfl rfl (by decide) kq) ?_
          refine c_flo rfl rfl (fun Xq rq Qq dq kq => o_add rfl rfl (by have hfe : fullE e = true := (by simp_all); have h1 := bal_bound hv e.b.toNat; have h2 := full_money hfe; have h3 := windBal_bound hv hfe e.a.toNat; have h4 := windBal_bound hv hfe e.c.toNat; unfold in64; (try dsimp only); omega) (by decide) kq) ?_
          refine c_flo rfl rfl (fun Xq rq Qq dq kq => o_idxo rfl rfl (by omega) (by omega) (by decide) kq) ?_
          refine c_sto (.cons_cons _ (.cons_cons _ (.cons _ (.cons _ (List.nil_sublist _))))) rfl rfl (fun Xq rq Qq dq kq => o_storee 2 rfl rfl (eltW (by simp [hv.lb, hv.ll, windBal]; omega)) rfl rfl rfl rfl (by simp [encI]) kq) ?_
          refine c_nil ?_
          refine h_heap (h' := (x17, .box 36 [I e.kind, I e.t, I e.a, I e.b, I e.c, I e.f, I e.to, I e.m]) :: WH { w with blocks := (overlayB (swapB w.blocks e.a e.c).1 (swapB (onlyB w.blocks e.f e.to).1 e.a e.b).1).1, bal := windBal w e } (overlayB (swapB w.blocks e.a e.c).1 (swapB (onlyB w.blocks e.f e.to).1 e.a e.b).1).1.isEmpty x b1 b2 c1 c2) (by simp only [WH, Nat.zero_add, setEnc, windBal] <;> rfl) ?_
          refine h_seq ?_
          refine h_draw _ (.cons_cons _ (.cons_cons _ (.cons _ (.cons _ (List.nil_sublist _))))) [(0, .flo), (1, .flo), (2, .flo), (3, .flo), (4, .box), (5, .flo), (6, .box), (7, .flo), (8, .val), (9, .flo), (10, .flo), (11, .flo), (12, .flo), (13, .box), (14, .flo), (15, .box), (16, .flo), (17, .val), (18, .flo), (19, .box), (20, .flo), (21, .flo), (22, .flo), (23, .sto)] mixed (by kernel_rfl) ?_
          refine c_flo rfl rfl (fun Xq rq Qq dq kq => o_move rfl (by decide) kq) ?_
          refine c_flo rfl rfl (fun Xq rq Qq dq kq => o_nilp rfl (by decide) kq) ?_
          refine c_flo rfl rfl (fun Xq rq Qq dq kq => o_faddr rfl rfl (by decide) (by decide) kq) ?_
          refine c_flo rfl rfl (fun Xq rq Qq dq kq => o_faddr rfl rfl (by decide) (by decide) kq) ?_
          refine c_box rfl rfl (fun Xq rq Qq dq kq => o_load 1 rfl rfl rfl rfl (by decide) kq) ?_
          refine c_flo rfl rfl (fun Xq rq Qq dq kq => o_faddr rfl rfl (by decide) (by decide) kq) ?_
          refine c_box rfl rfl (fun Xq rq Qq dq kq => o_load 0 rfl rfl rfl rfl (by decide) kq) ?_
          refine c_flo rfl rfl (fun Xq rq Qq dq kq => o_idxo rfl rfl (by omega) (by omega) (by decide) kq) ?_
          refine c_val rfl rfl (fun Xq rq Qq dq kq => o_loade 2 rfl rfl (eltW (by simp [hv.lb, hv.ll, windBal]; omega)) rfl rfl (by decide) kq) ?_
          refine c_flo rfl rfl (fun Xq rq Qq dq kq => o_move rfl (by decide) kq) ?_
          refine c_flo rfl rfl (fun Xq rq Qq dq kq => o_nilp rfl (by decide) kq) ?_
          refine c_flo rfl rfl (fun Xq rq Qq dq kq => o_faddr rfl rfl (by decide) (by decide) kq) ?_
          refine c_flo rfl rfl (fun Xq rq Qq dq kq => o_faddr rfl rfl (by decide) (by decide) kq) ?_
          refine c_box rfl rfl (fun Xq rq Qq dq kq => o_load 1 rfl rfl rfl rfl (by decide) kq) ?_
          refine c_flo rfl rfl (fun Xq rq Qq dq kq => o_faddr rfl rfl (by decide) (by decide) kq) ?_
          refine c_box rfl rfl (fun Xq rq Qq dq kq => o_load 0 rfl rfl rfl rfl (by decide) kq) ?_
          refine c_flo rfl rfl (fun Xq rq Qq dq kq => o_idxo rfl rfl (by omega) (by omega) (by decide) kq) ?_
          refine c_val rfl rfl (fun Xq rq Qq dq kq => o_loade 2 rfl rfl (eltW (by simp [hv.lb, hv.ll, windBal]; omega)) rfl rfl (by decide) kq) ?_
          refine c_flo rfl rfl (fun Xq rq Qq dq kq => o_faddr rfl rfl (by decide) (by decide) kq) ?_
          refine c_box rfl rfl (fun Xq rq Qq dq kq => o_load 0 rfl rfl rfl rfl (by decide) kq) ?_
          refine c_flo rfl rfl (fun Xq rq Qq dq kq => o_sub rfl rfl (by have hfe : fullE e = true := (by simp_all); have h1 := bal_bound hv e.b.toNat; have h2 := full_money hfe; have h3 := windBal_bound hv hfe e.a.toNat; have h4 := windBal_bound hv hfe e.c.toNat; unfold in64; (try dsimp only); omega) (by decide) kq) ?_
          refine c_flo rfl rfl (fun Xq rq Qq dq kq => o_add rfl rfl (by have hfe : fullE e = true := (by simp_all); have h1 := bal_bound hv e.b.toNat; have h2 := full_money hfe; have h3 := windBal_bound hv hfe e.a.toNat; have h4 := windBal_bound hv hfe e.c.toNat; unfold in64; (try dsimp only); omega) (by decide) kq) ?_
          refine c_flo rfl rfl (fun Xq rq Qq dq kq => o_idxo rfl rfl (by omega) (by omega) (by decide) kq) ?_
          refine c_sto (.cons_cons _ (.cons_cons _ (.cons _ (.cons _ (List.nil_sublist _))))) rfl rfl (fun Xq rq Qq dq kq => o_storee 2 rfl rfl (eltW (by simp [hv.lb, hv.ll, windBal]; omega)) rfl rfl rfl rfl (by simp [encI]) kq) ?_
          refine c_nil ?_
          refine h_heap (h' := (x17, .box 36 [I e.kind, I e.t, I e.a, I e.b, I e.c, I e.f, I e.to, I e.m]) :: WH { w with blocks := (overlayB (swapB w.blocks e.a e.c).1 (swapB (onlyB w.blocks e.f e.to).1 e.a e.b).1).1, bal := (windBal w e).set e.c.toNat ((windBal w e).getD e.c.toNat 0 + ((windBal w e).getD e.a.toNat 0 - e.m)) } (overlayB (swapB w.blocks e.a e.c).1 (swapB (onlyB w.blocks e.f e.to).1 e.a e.b).1).1.isEmpty x b1 b2 c1 c2) (by simp only [WH, Nat.zero_add, setEnc, windBal] <;> rfl) ?_
          refine h_region ?_
          refine o_move rfl (by decide) ?_
          refine o_faddr rfl rfl (by decide) (by decide) ?_
          refine o_load 0 rfl rfl rfl rfl (by decide) ?_
          refine o_callR (h2 := [(x17, .box 36 [I e.kind, I e.t, I e.a, I e.b, I e.c, I e.f, I e.to, I e.m])]) rfl rfl rfl EntC.out (by decide) (end_spec { w with blocks := (overlayB (swapB w.blocks e.a e.c).1 (swapB (onlyB w.blocks e.f e.to).1 e.a e.b).1).1, bal := (windBal w e).set e.c.toNat ((windBal w e).getD e.c.toNat 0 + ((windBal w e).getD e.a.toNat 0 - e.m)) } _ x b1 b2 c1 c2 e.a ha0 ha7 (by simp [hv.lb, windBal]) (by simp [hv.ll])) fun v h' hr => ?_
          obtain ⟨rfl, rfl⟩ := hr
          refine o_nil ?_
          exact retS0 _ (.cons _ (.refl _)) (.inl ⟨_, _, (by unfold windW; rw [if_neg (by simp_all), if_neg (by simp_all), if_neg (by simp_all), if_neg (by simp_all), if_neg (by simp_all)]), rfl, rfl⟩)
        ·
          have g25 : _ = false := g25
          refine c_flo rfl rfl (fun Xq rq Qq dq kq => o_guardn rfl rfl g25 (by decide) kq) ?_
          refine c_val rfl rfl (fun Xq rq Qq dq kq => o_guardn rfl rfl g25 (by decide) kq) ?_
          refine c_flo rfl rfl (fun Xq rq Qq dq kq => o_guardn rfl rfl g25 (by decide) kq) ?_
          refine c_val rfl rfl (fun Xq rq Qq dq kq => o_guardn rfl rfl g25 (by decide) kq) ?_
          refine c_flo rfl rfl (fun Xq rq Qq dq kq => o_guardn rfl rfl g25 (by decide) kq) ?_
          refine c_flo rfl rfl (fun Xq rq Qq dq kq => o_pickf rfl g25 rfl (by decide) kq) ?_
          refine c_bar ?_
          refine o_need rfl rfl (by decide) (fun hn43 => absurd hn43 (by simp_all)) (fun hn43 => panK (.inr ⟨(by unfold windW; rw [if_pos (by simp_all)]), rfl⟩))
      ·
        have g23 : _ = false := g23
        refine c_flo rfl rfl (fun Xq rq Qq dq kq => o_guardn rfl rfl g23 (by decide) kq) ?_
        refine c_val rfl rfl (fun Xq rq Qq dq kq => o_guardn rfl rfl g23 (by decide) kq) ?_
        refine c_flo rfl rfl (fun Xq rq Qq dq kq => o_guardn rfl rfl g23 (by decide) kq) ?_
        refine c_val rfl rfl (fun Xq rq Qq dq kq => o_guardn rfl rfl g23 (by decide) kq) ?_
        refine c_flo rfl rfl (fun Xq rq Qq dq kq => o_guardn rfl rfl g23 (by decide) kq) ?_
        refine c_flo rfl rfl (fun Xq rq Qq dq kq => o_pickf rfl g23 rfl (by decide) kq) ?_
        refine c_flo rfl rfl (fun Xq rq Qq dq kq => o_move rfl (by decide) kq) ?_
        refine c_flo rfl rfl (fun Xq rq Qq dq kq => o_guardn rfl rfl rfl (by decide) kq) ?_
        refine c_val rfl rfl (fun Xq rq Qq dq kq => o_guardn rfl rfl rfl (by decide) kq) ?_
        refine c_flo rfl rfl (fun Xq rq Qq dq kq => o_guardn rfl rfl rfl (by decide) kq) ?_
        refine c_val rfl rfl (fun Xq rq Qq dq kq => o_guardn rfl rfl rfl (by decide) kq) ?_
        refine c_flo rfl rfl (fun Xq rq Qq dq kq => o_guardn rfl rfl rfl (by decide) kq) ?_
        refine c_flo rfl rfl (fun Xq rq Qq dq kq => o_pickf rfl rfl rfl (by decide) kq) ?_
        refine c_bar ?_
        refine o_need rfl rfl (by decide) (fun hn43 => absurd hn43 (by simp_all)) (fun hn43 => panK (.inr ⟨(by unfold windW; rw [if_pos (by simp_all)]), rfl⟩))
    ·
      have g21 : _ = false := g21
      refine c_flo rfl rfl (fun Xq rq Qq dq kq => o_guardn rfl rfl g21 (by decide) kq) ?_
      refine c_flo rfl rfl (fun Xq rq Qq dq kq => o_guardn rfl rfl g21 (by decide) kq) ?_
      refine c_flo rfl rfl (fun Xq rq Qq dq kq => o_guardn rfl rfl g21 (by decide) kq) ?_
      refine c_flo rfl rfl (fun Xq rq Qq dq kq => o_guardn rfl rfl g21 (by decide) kq) ?_
      refine c_val rfl rfl (fun Xq rq Qq dq kq => o_guardn rfl rfl g21 (by decide) kq) ?_
      refine c_flo rfl rfl (fun Xq rq Qq dq kq => o_guardn rfl rfl g21 (by decide) kq) ?_
      refine c_val rfl rfl (fun Xq rq Qq dq kq => o_guardn rfl rfl g21 (by decide) kq) ?_
      refine c_flo rfl rfl (fun Xq rq Qq dq kq => o_guardn rfl rfl g21 (by decide) kq) ?_
      refine c_flo rfl rfl (fun Xq rq Qq dq kq => o_pickf rfl g21 rfl (by decide) kq) ?_
      refine c_flo rfl rfl (fun Xq rq Qq dq kq => o_move rfl (by decide) kq) ?_
      refine c_flo rfl rfl (fun Xq rq Qq dq kq => o_guardn rfl rfl rfl (by decide) kq) ?_
      refine c_val rfl rfl (fun Xq rq Qq dq kq => o_guardn rfl rfl rfl (by decide) kq) ?_
      refine c_flo rfl rfl (fun Xq rq Qq dq kq => o_guardn rfl rfl rfl (by decide) kq) ?_
      refine c_val rfl rfl (fun Xq rq Qq dq kq => o_guardn rfl rfl rfl (by decide) kq) ?_
      refine c_flo rfl rfl (fun Xq rq Qq dq kq => o_guardn rfl rfl rfl (by decide) kq) ?_
      refine c_flo rfl rfl (fun Xq rq Qq dq kq => o_pickf rfl rfl rfl (by decide) kq) ?_
      refine c_flo rfl rfl (fun Xq rq Qq dq kq => o_move rfl (by decide) kq) ?_
      refine c_flo rfl rfl (fun Xq rq Qq dq kq => o_guardn rfl rfl rfl (by decide) kq) ?_
      refine c_val rfl rfl (fun Xq rq Qq dq kq => o_guardn rfl rfl rfl (by decide) kq) ?_
      refine c_flo rfl rfl (fun Xq rq Qq dq kq => o_guardn rfl rfl rfl (by decide) kq) ?_
      refine c_val rfl rfl (fun Xq rq Qq dq kq => o_guardn rfl rfl rfl (by decide) kq) ?_
      refine c_flo rfl rfl (fun Xq rq Qq dq kq => o_guardn rfl rfl rfl (by decide) kq) ?_
      refine c_flo rfl rfl (fun Xq rq Qq dq kq => o_pickf rfl rfl rfl (by decide) kq) ?_
      refine c_bar ?_
      refine o_need rfl rfl (by decide) (fun hn43 => absurd hn43 (by simp_all)) (fun hn43 => panK (.inr ⟨(by unfold windW; rw [if_pos (by simp_all)]), rfl⟩))
  ·
    have g19 : _ = false := g19
    refine c_flo rfl rfl (fun Xq rq Qq dq kq => o_guardn rfl rfl g19 (by decide) kq) ?_
    refine c_flo rfl rfl (fun Xq rq Qq dq kq => o_guardn rfl rfl g19 (by decide) kq) ?_
    refine c_flo rfl rfl (fun Xq rq Qq dq kq => o_guardn rfl rfl g19 (by decide) kq) ?_
    refine c_flo rfl rfl (fun Xq rq Qq dq kq => o_guardn rfl rfl g19 (by decide) kq) ?_
    refine c_val rfl rfl (fun Xq rq Qq dq kq => o_guardn rfl rfl g19 (by decide) kq) ?_
    refine c_flo rfl rfl (fun Xq rq Qq dq kq => o_guardn rfl rfl g19 (by decide) kq) ?_
    refine c_val rfl rfl (fun Xq rq Qq dq kq => o_guardn rfl rfl g19 (by decide) kq) ?_
    refine c_flo rfl rfl (fun Xq rq Qq dq kq => o_guardn rfl rfl g19 (by decide) kq) ?_
    refine c_flo rfl rfl (fun Xq rq Qq dq kq => o_pickf rfl g19 rfl (by decide) kq) ?_
    refine c_flo rfl rfl (fun Xq rq Qq dq kq => o_move rfl (by decide) kq) ?_
    refine c_flo rfl rfl (fun Xq rq Qq dq kq => o_guardn rfl rfl rfl (by decide) kq) ?_
    refine c_flo rfl rfl (fun Xq rq Qq dq kq => o_guardn rfl rfl rfl (by decide) kq) ?_
    refine c_flo rfl rfl (fun Xq rq Qq dq kq => o_guardn rfl rfl rfl (by decide) kq) ?_
    refine c_flo rfl rfl (fun Xq rq Qq dq kq => o_guardn rfl rfl rfl (by decide) kq) ?_
    refine c_val rfl rfl (fun Xq rq Qq dq kq => o_guardn rfl rfl rfl (by decide) kq) ?_
    refine c_flo rfl rfl (fun Xq rq Qq dq kq => o_guardn rfl rfl rfl (by decide) kq) ?_
    refine c_val rfl rfl (fun Xq rq Qq dq kq => o_guardn rfl rfl rfl (by decide) kq) ?_
    refine c_flo rfl rfl (fun Xq rq Qq dq kq => o_guardn rfl rfl rfl (by decide) kq) ?_
    refine c_flo rfl rfl (fun Xq rq Qq dq kq => o_pickf rfl rfl rfl (by decide) kq) ?_
    refine c_flo rfl rfl (fun Xq rq Qq dq kq => o_move rfl (by decide) kq) ?_
    refine c_flo rfl rfl (fun Xq rq Qq dq kq => o_guardn rfl rfl rfl (by decide) kq) ?_
    refine c_val rfl rfl (fun Xq rq Qq dq kq => o_guardn rfl rfl rfl (by decide) kq) ?_
    refine c_flo rfl rfl (fun Xq rq Qq dq kq => o_guardn rfl rfl rfl (by decide) kq) ?_
    refine c_val rfl rfl (fun Xq rq Qq dq kq => o_guardn rfl rfl rfl (by decide) kq) ?_
    refine c_flo rfl rfl (fun Xq rq Qq dq kq => o_guardn rfl rfl rfl (by decide) kq) ?_
    refine c_flo rfl rfl (fun Xq rq Qq dq kq => o_pickf rfl rfl rfl (by decide) kq) ?_
    refine c_flo rfl rfl (fun Xq rq Qq dq kq => o_move rfl (by decide) kq) ?_
    refine c_flo rfl rfl (fun Xq rq Qq dq kq => o_guardn rfl rfl rfl (by decide) kq) ?_
    refine c_val rfl rfl (fun Xq rq Qq dq kq => o_guardn rfl rfl rfl (by decide) kq) ?_
    refine c_flo rfl rfl (fun Xq rq Qq dq kq => o_guardn rfl rfl rfl (by decide) kq) ?_
    refine c_val rfl rfl (fun Xq rq Qq dq kq => o_guardn rfl rfl rfl (by decide) kq) ?_
    refine c_flo rfl rfl (fun Xq rq Qq dq kq => o_guardn rfl rfl rfl (by decide) kq) ?_
    refine c_flo rfl rfl (fun Xq rq Qq dq kq => o_pickf rfl rfl rfl (by decide) kq) ?_
    refine c_bar ?_
    refine o_need rfl rfl (by decide) (fun hn43 => absurd hn43 (by simp_all)) (fun hn43 => panK (.inr ⟨(by unfold windW; rw [if_pos (by simp_all)]), rfl⟩))

end Go.Proofs.Ytbnonekkjjcdgaa
/- The walk of package merge's upgrade. -/
namespace Go.Proofs.Ytbnonekkjjcdgaa
open Go Go.RowKit Go.Shelf Hp
set_option maxRecDepth 10000
set_option maxHeartbeats 1000000
set_option linter.unusedVariables false
set_option linter.unusedSimpArgs false
attribute [local irreducible] WP WPs FnX IterX YdX RetP PanP Ch Back Join
def badUp (w : Wd) (e : Ev) (k : Nat) : Bool := hasC w.alive k && decide (w.lev.getD k 0 < w.lev.getD e.a.toNat 0)
def upW (w : Wd) (e : Ev) : Option Wd :=
  if (bareE e && decide (e.b = 0) && decide (e.c = 0)) = false then none else
  if (List.range 8).any (badUp w e) = true then none else
  some { w with lev := w.lev.set e.a.toNat (w.lev.getD e.a.toNat 0 + 1) }
theorem up_bad {w : Wd} {e : Ev} {k : Nat} (hk : k < 8) (h : badUp w e k = true) : (List.range 8).any (badUp w e) = true := List.any_eq_true.2 ⟨k, List.mem_range.2 hk, h⟩
theorem lev_bound {w : Wd} (hv : VParts w) (i : Nat) : 0 ≤ w.lev.getD i 0 ∧ w.lev.getD i 0 ≤ 9 := by
  by_cases h : i < 8
  · have := hv.ok i h; simp only [okAt, Bool.and_eq_true, inM, decide_eq_true_eq] at this; exact this.1.2
  · have : w.lev.getD i 0 = 0 := by have := hv.ll; simp; rw [List.getElem?_eq_none (by omega)]; rfl
    omega

structure UpI (w : Wd) (e : Ev) where
  k : Nat
  hk : k ≤ 8
  hok : ∀ j, j < k → badUp w e j = false

theorem upgrade_do (w : Wd) (f : Bool) (x b1 b2 c1 c2 : Nat) (e : Ev) (hv : VParts w) (ha0 : 0 ≤ e.a) (ha7 : e.a ≤ 7) : FnE Try.prog 81 [.ptr x 0, encE e] (WH w f x b1 b2 c1 c2) (DoR (upW w e) x b1 b2 c1 c2) := by
  refine fnE_intro (N := 64) Try.func81 rfl rfl rfl ?_
  intro X
  refine h_seq ?_
  refine h_region ?_
  refine o_box rfl rfl (by decide) fun x1 => ?_
  refine o_nil ?_
  refine h_seq ?_
  refine h_region ?_
  refine o_load 0 rfl rfl rfl rfl (by decide) ?_
  refine o_call1 rfl rfl EntC.out (by decide) (isBare_spec _) ?_
  refine o_move rfl (by decide) ?_
  refine o_guard rfl rfl (by decide) (fun g3 => ?_) (fun g3 => ?_)
  ·
    have g3 : _ = true := g3
    refine o_faddr rfl rfl (by decide) (by decide) ?_
    refine o_guardy rfl rfl g3 (by decide) ?_
    refine o_load 0 rfl rfl rfl rfl (by decide) ?_
    refine o_guardy rfl rfl g3 (by decide) ?_
    refine o_cmp rfl rfl rfl (by decide) ?_
    refine o_pickt rfl g3 rfl (by decide) ?_
    refine o_move rfl (by decide) ?_
    refine o_guard rfl rfl (by decide) (fun g5 => ?_) (fun g5 => ?_)
    ·
      have g5 : _ = true := g5
      refine o_faddr rfl rfl (by decide) (by decide) ?_
      refine o_guardy rfl rfl g5 (by decide) ?_
      refine o_load 0 rfl rfl rfl rfl (by decide) ?_
      refine o_guardy rfl rfl g5 (by decide) ?_
      refine o_cmp rfl rfl rfl (by decide) ?_
      refine o_pickt rfl g5 rfl (by decide) ?_
      refine o_need rfl rfl (by decide) (fun hn18 => ?_) (fun hn18 => panK (.inr ⟨(by unfold upW; rw [if_pos (by simp_all)]), rfl⟩))
      refine o_nil ?_
      refine h_seq ?_
      refine h_seq ?_
      refine h_region ?_
      refine o_move rfl (by decide) ?_
      refine o_nilp rfl (by decide) ?_
      refine o_faddr rfl rfl (by decide) (by decide) ?_
      refine o_faddr rfl rfl (by decide) (by decide) ?_
      refine o_load 1 rfl rfl rfl rfl (by decide) ?_
      refine o_leno rfl (by decide) ?_
      refine o_move rfl (by decide) ?_
      refine o_nil ?_
      refine h_block ?_
      refine h_famS (ι := UpI w e) (fun i => [(0, .ptr x 0), (3, .ptr x1 0), (23, .os b2 1 0 8 c2), (24, I (8 : Nat)), (25, I (i.k : Nat))]) (fun i => (x1, .box 36 [I e.kind, I e.t, I e.a, I e.b, I e.c, I e.f, I e.to, I e.m]) :: (x, .box 106 [I w.alive, I w.ever, V (w.blocks.map encB) f, .os b1 1 0 8 c1, .os b2 1 0 8 c2]) :: (b1, .arr 3 1 (w.bal.map encI) c1) :: (b2, .arr 3 1 (w.lev.map encI) c2) :: []) (fun i => 8 - i.k) ⟨0, by omega, by intro j hj; omega⟩ (.cons_cons _ (.cons_cons _ (.cons_cons _ (.cons_cons _ (.refl _))))) (subT.cons rfl (subT.cons rfl (subT.cons rfl (subT.cons rfl (subT.cons rfl subT.nil))))) ?_
      rintro ⟨k, hk, hok⟩
      by_cases hlt : k < 8
      ·
        refine h_seq ?_
        refine h_region ?_
        refine o_cmp rfl rfl rfl (by decide) ?_
        refine o_nil ?_
        refine h_seq ?_
        refine h_condt rfl (by simp; omega) ?_
        refine h_skip ?_
        refine h_seq ?_
        refine h_block ?_
        refine h_seq ?_
        refine h_region ?_
        refine o_move rfl (by decide) ?_
        refine o_idxo rfl rfl (by (try dsimp only); omega) (by (try dsimp only); omega) (by decide) ?_
        refine o_loade 3 rfl rfl (eltW (by rw [hv.ll]; (try dsimp only); omega)) rfl rfl (by decide) ?_
        refine o_assign rfl (by decide) ?_
        refine o_assign rfl (by decide) ?_
        refine o_nil ?_
        refine h_draw _ (List.nil_sublist _) [(0, .flo), (1, .flo), (2, .flo), (3, .flo), (4, .val), (5, .flo), (6, .flo), (7, .flo), (8, .flo), (9, .flo), (10, .flo), (11, .flo), (12, .flo), (13, .flo), (14, .val), (15, .flo), (16, .val), (17, .flo), (18, .val), (19, .flo), (20, .flo), (21, .bar)] mixed (by kernel_rfl) ?_
        refine c_flo rfl rfl (fun Xq rq Qq dq kq => o_move rfl (by decide) kq) ?_
        refine c_flo rfl rfl (fun Xq rq Qq dq kq => o_nilp rfl (by decide) kq) ?_
        refine c_flo rfl rfl (fun Xq rq Qq dq kq => o_faddr rfl rfl (by decide) (by decide) kq) ?_
        refine c_flo rfl rfl (fun Xq rq Qq dq kq => o_faddr rfl rfl (by decide) (by decide) kq) ?_
        refine c_val rfl rfl (fun Xq rq Qq dq kq => o_load 1 rfl rfl rfl rfl (by decide) kq) ?_
        refine c_flo rfl rfl (fun Xq rq Qq dq kq => o_move rfl (by decide) kq) ?_
        refine c_flo rfl rfl (fun Xq rq Qq dq kq => o_call1 rfl rfl EntC.out (by decide) (has_spec _ _ (by (try dsimp only); omega) (by (try dsimp only); omega)) kq) ?_
        refine c_flo rfl rfl (fun Xq rq Qq dq kq => o_not rfl (by decide) kq) ?_
        refine c_flo rfl rfl (fun Xq rq Qq dq kq => o_move rfl (by decide) kq) ?_
        refine c_split (t := 38) rfl (fun g9 => ?_) (fun g9 => ?_)
        ·
          have g9 : _ = true := g9
          refine c_flo rfl rfl (fun Xq rq Qq dq kq => o_guardn rfl rfl (by rw [(not_of g9)]; rfl) (by decide) kq) ?_
          refine c_flo rfl rfl (fun Xq rq Qq dq kq => o_guardn rfl rfl (by rw [(not_of g9)]; rfl) (by decide) kq) ?_
          refine c_flo rfl rfl (fun Xq rq Qq dq kq => o_guardn rfl rfl (by rw [(not_of g9)]; rfl) (by decide) kq) ?_
          refine c_flo rfl rfl (fun Xq rq Qq dq kq => o_guardn rfl rfl (by rw [(not_of g9)]; rfl) (by decide) kq) ?_
          refine c_flo rfl rfl (fun Xq rq Qq dq kq => o_guardn rfl rfl (by rw [(not_of g9)]; rfl) (by decide) kq) ?_
          refine c_val rfl rfl (fun Xq rq Qq dq kq => o_guardn rfl rfl (by rw [(not_of g9)]; rfl) (by decide) kq) ?_
          refine c_flo rfl rfl (fun Xq rq Qq dq kq => o_guardn rfl rfl (by rw [(not_of g9)]; rfl) (by decide) kq) ?_
          refine c_val rfl rfl (fun Xq rq Qq dq kq => o_guardn rfl rfl (by rw [(not_of g9)]; rfl) (by decide) kq) ?_
          refine c_flo rfl rfl (fun Xq rq Qq dq kq => o_guardn rfl rfl (by rw [(not_of g9)]; rfl) (by decide) kq) ?_
          refine c_val rfl rfl (fun Xq rq Qq dq kq => o_guardn rfl rfl (by rw [(not_of g9)]; rfl) (by decide) kq) ?_
          refine c_flo rfl rfl (fun Xq rq Qq dq kq => o_guardn rfl rfl (by rw [(not_of g9)]; rfl) (by decide) kq) ?_
          refine c_flo rfl rfl (fun Xq rq Qq dq kq => o_pickt rfl (by rw [(not_of g9)]; rfl) rfl (by decide) kq) ?_
          refine c_bar ?_
          refine o_need rfl rfl (by decide) (fun hn51 => ?_) (fun hn51 => absurd hn51 (by simp_all))
          refine o_nil ?_
          refine h_region ?_
          refine o_add rfl rfl (by unfold in64; (try dsimp only); omega) (by decide) ?_
          refine o_move rfl (by decide) ?_
          refine o_nil ?_
          have hnb : badUp w e k = false := by simp only [badUp, Bool.and_eq_false_iff, decide_eq_false_iff_not]; simp_all <;> omega
          refine back rfl ⟨k + 1, hlt, (by intro j hj; rcases Nat.lt_succ_iff_lt_or_eq.1 hj with h1 | h1; exact hok j h1; subst h1; exact hnb)⟩ (by dsimp only; omega) (.cons_cons _ (.cons_cons _ (.cons_cons _ (.cons_cons _ (.refl _))))) (subT.cons rfl (subT.cons rfl (subT.cons rfl (subT.cons rfl (subT.cons rfl subT.nil)))))
        ·
          have g9 : _ = false := g9
          refine c_flo rfl rfl (fun Xq rq Qq dq kq => o_guardy rfl rfl (by rw [(not_of g9)]; rfl) (by decide) (o_move rfl (by decide) kq)) ?_
          refine c_flo rfl rfl (fun Xq rq Qq dq kq => o_guardy rfl rfl (by rw [(not_of g9)]; rfl) (by decide) (o_move rfl (by decide) kq)) ?_
          refine c_flo rfl rfl (fun Xq rq Qq dq kq => o_guardy rfl rfl (by rw [(not_of g9)]; rfl) (by decide) (o_nilp rfl (by decide) kq)) ?_
          refine c_flo rfl rfl (fun Xq rq Qq dq kq => o_guardy rfl rfl (by rw [(not_of g9)]; rfl) (by decide) (o_faddr rfl rfl (by decide) (by decide) kq)) ?_
          refine c_flo rfl rfl (fun Xq rq Qq dq kq => o_guardy rfl rfl (by rw [(not_of g9)]; rfl) (by decide) (o_faddr rfl rfl (by decide) (by decide) kq)) ?_
          refine c_val rfl rfl (fun Xq rq Qq dq kq => o_guardy rfl rfl (by rw [(not_of g9)]; rfl) (by decide) (o_load 1 rfl rfl rfl rfl (by decide) kq)) ?_
          refine c_flo rfl rfl (fun Xq rq Qq dq kq => o_guardy rfl rfl (by rw [(not_of g9)]; rfl) (by decide) (o_faddr rfl rfl (by decide) (by decide) kq)) ?_
          refine c_val rfl rfl (fun Xq rq Qq dq kq => o_guardy rfl rfl (by rw [(not_of g9)]; rfl) (by decide) (o_load 0 rfl rfl rfl rfl (by decide) kq)) ?_
          refine c_flo rfl rfl (fun Xq rq Qq dq kq => o_guardy rfl rfl (by rw [(not_of g9)]; rfl) (by decide) (o_idxo rfl rfl (by (try dsimp only); omega) (by (try dsimp only); omega) (by decide) kq)) ?_
          refine c_val rfl rfl (fun Xq rq Qq dq kq => o_guardy rfl rfl (by rw [(not_of g9)]; rfl) (by decide) (o_loade 3 rfl rfl (eltW (by rw [hv.ll]; (try dsimp only); omega)) rfl rfl (by decide) kq)) ?_
          refine c_flo rfl rfl (fun Xq rq Qq dq kq => o_guardy rfl rfl (by rw [(not_of g9)]; rfl) (by decide) (o_cmp rfl rfl rfl (by decide) kq)) ?_
          refine c_flo rfl rfl (fun Xq rq Qq dq kq => o_pickf rfl (by rw [(not_of g9)]; rfl) rfl (by decide) kq) ?_
          refine c_bar ?_
          refine o_need rfl rfl (by decide) (fun hn51 => ?_) (fun hn51 => panK (.inr ⟨(by unfold upW; rw [if_neg (by simp_all), if_pos (up_bad hlt (by simp only [badUp, Bool.and_eq_true, decide_eq_true_eq]; simp_all))]), rfl⟩))
          refine o_nil ?_
          refine h_region ?_
          refine o_add rfl rfl (by unfold in64; (try dsimp only); omega) (by decide) ?_
          refine o_move rfl (by decide) ?_
          refine o_nil ?_
          have hnb : badUp w e k = false := by simp only [badUp, Bool.and_eq_false_iff, decide_eq_false_iff_not]; simp_all <;> omega
          refine back rfl ⟨k + 1, hlt, (by intro j hj; rcases Nat.lt_succ_iff_lt_or_eq.1 hj with h1 | h1; exact hok j h1; subst h1; exact hnb)⟩ (by dsimp only; omega) (.cons_cons _ (.cons_cons _ (.cons_cons _ (.cons_cons _ (.refl _))))) (subT.cons rfl (subT.cons rfl (subT.cons rfl (subT.cons rfl (subT.cons rfl subT.nil)))))
      ·
        obtain rfl : k = 8 := by omega
        refine h_seq ?_
        refine h_region ?_
        refine o_cmp rfl rfl rfl (by decide) ?_
        refine o_nil ?_
        refine h_seq ?_
        refine h_condf rfl (by simp) ?_
        refine h_exit ?_
        refine h_draw _ (.cons_cons _ (.cons_cons _ (.cons _ (.cons _ (List.nil_sublist _))))) [(0, .flo), (1, .flo), (2, .flo), (3, .flo), (4, .box), (5, .flo), (6, .box), (7, .flo), (8, .val), (9, .flo), (10, .flo), (11, .sto)] mixed (by kernel_rfl) ?_
        refine c_flo rfl rfl (fun Xq rq Qq dq kq => o_move rfl (by decide) kq) ?_
        refine c_flo rfl rfl (fun Xq rq Qq dq kq => o_nilp rfl (by decide) kq) ?_
        refine c_flo rfl rfl (fun Xq rq Qq dq kq => o_faddr rfl rfl (by decide) (by decide) kq) ?_
        refine c_flo rfl rfl (fun Xq rq Qq dq kq => o_faddr rfl rfl (by decide) (by decide) kq) ?_
        refine c_box rfl rfl (fun Xq rq Qq dq kq => o_load 1 rfl rfl rfl rfl (by decide) kq) ?_
        refine c_flo rfl rfl (fun Xq rq Qq dq kq => o_faddr rfl rfl (by decide) (by decide) kq) ?_
        refine c_box rfl rfl (fun Xq rq Qq dq kq => o_load 0 rfl rfl rfl rfl (by decide) kq) ?_
        refine c_flo rfl rfl (fun Xq rq Qq dq kq => o_idxo rfl rfl (by (try dsimp only); omega) (by (try dsimp only); omega) (by decide) kq) ?_
        refine c_val rfl rfl (fun Xq rq Qq dq kq => o_loade 3 rfl rfl (eltW (by rw [hv.ll]; (try dsimp only); omega)) rfl rfl (by decide) kq) ?_
        refine c_flo rfl rfl (fun Xq rq Qq dq kq => o_add rfl rfl (by have := lev_bound hv e.a.toNat; unfold in64; (try dsimp only); omega) (by decide) kq) ?_
        refine c_flo rfl rfl (fun Xq rq Qq dq kq => o_idxo rfl rfl (by (try dsimp only); omega) (by (try dsimp only); omega) (by decide) kq) ?_
        refine c_sto (.cons_cons _ (.cons_cons _ (.cons _ (.cons _ (List.nil_sublist _))))) rfl rfl (fun Xq rq Qq dq kq => o_storee 3 rfl rfl (eltW (by rw [hv.ll]; (try dsimp only); omega)) rfl rfl rfl rfl (by simp [encI]) kq) ?_
        refine c_nil ?_
        have hnn : (List.range 8).any (badUp w e) = false := by rw [List.any_eq_false]; intro j hj; rw [hok j (List.mem_range.1 hj)]; simp
        exact retS0 _ (.cons _ (.refl _)) (.inl ⟨_, f, (by unfold upW; rw [if_neg (by simp_all), if_neg (by rw [hnn]; simp)]), rfl, by simp only [WH, Nat.zero_add, setEnc] <;> rfl⟩)
    ·
      have g5 : _ = false := g5
      refine o_guardn rfl rfl g5 (by decide) ?_
      refine o_guardn rfl rfl g5 (by decide) ?_
      refine o_pickf rfl g5 rfl (by decide) ?_
      refine o_need rfl rfl (by decide) (fun hn18 => absurd hn18 (by simp_all)) (fun hn18 => panK (.inr ⟨(by unfold upW; rw [if_pos (by simp_all)]), rfl⟩))
  ·
    have g3 : _ = false := g3
    refine o_guardn rfl rfl g3 (by decide) ?_
    refine o_guardn rfl rfl g3 (by decide) ?_
    refine o_pickf rfl g3 rfl (by decide) ?_
    refine o_move rfl (by decide) ?_
    refine o_guardn rfl rfl rfl (by decide) ?_
    refine o_guardn rfl rfl rfl (by decide) ?_
    refine o_guardn rfl rfl rfl (by decide) ?_
    refine o_pickf rfl rfl rfl (by decide) ?_
    refine o_need rfl rfl (by decide) (fun hn18 => absurd hn18 (by simp_all)) (fun hn18 => panK (.inr ⟨(by unfold upW; rw [if_pos (by simp_all)]), rfl⟩))

end Go.Proofs.Ytbnonekkjjcdgaa
/- The walks of package merge: kinds, and what step has deferred. -/
namespace Go.Proofs.Ytbnonekkjjcdgaa
open Go Go.RowKit Go.Shelf Hp
set_option maxRecDepth 10000
set_option maxHeartbeats 1000000
set_option linter.unusedVariables false
set_option linter.unusedSimpArgs false
attribute [local irreducible] WP WPs FnX IterX YdX RetP PanP Ch Back Join
abbrev fv (f : FuncId) : Value := .func (.func f) #[] #[]
def kindsEs : Array MapEntry := (((#[].push { key := .int .i64 1, val := fv 78, born := 0 }).push { key := .int .i64 2, val := fv 79, born := 0 + 1 }).push { key := .int .i64 3, val := fv 80, born := 0 + 1 + 1 }).push { key := .int .i64 4, val := fv 81, born := 0 + 1 + 1 + 1 }
theorem find1 : Instr.findNow (.int .i64) (.int .i64 1) kindsEs.toList 0 = some (some (0, fv 78)) := rfl
theorem find2 : Instr.findNow (.int .i64) (.int .i64 2) kindsEs.toList 0 = some (some (1, fv 79)) := rfl
theorem find3 : Instr.findNow (.int .i64) (.int .i64 3) kindsEs.toList 0 = some (some (2, fv 80)) := rfl
theorem find4 : Instr.findNow (.int .i64) (.int .i64 4) kindsEs.toList 0 = some (some (3, fv 81)) := rfl
theorem find0 {k : Int} (h1 : k ≠ 1) (h2 : k ≠ 2) (h3 : k ≠ 3) (h4 : k ≠ 4) : Instr.findNow (.int .i64) (.int .i64 k) kindsEs.toList 0 = some none := by
  have e1 : (k == 1) = false := by simpa using h1
  have e2 : (k == 2) = false := by simpa using h2
  have e3 : (k == 3) = false := by simpa using h3
  have e4 : (k == 4) = false := by simpa using h4
  simp [kindsEs, Instr.findNow, Instr.sameNow, e1, e2, e3, e4]
theorem kind5 (k : Int) : k = 1 ∨ k = 2 ∨ k = 3 ∨ k = 4 ∨ (k ≠ 1 ∧ k ≠ 2 ∧ k ≠ 3 ∧ k ≠ 4) := by omega

theorem kinds_spec : Fc Try.prog 61 [] [] (fun r h' => ∃ b, r = M b ∧ h' = [(b, .obj (.map kindsEs (0 + 1 + 1 + 1 + 1)))]) := by
  refine fnE_intro (N := 3) Try.func61 rfl rfl rfl ?_
  intro X
  refine h_seq ?_
  refine h_region ?_
  refine o_assign rfl (by decide) ?_
  refine o_nil ?_
  refine h_seq ?_
  refine h_region ?_
  refine o_makeMap (by decide) fun x1 => ?_
  refine o_insert 0 rfl rfl rfl rfl (only_fn _) rfl ?_
  refine o_insert 0 rfl rfl rfl rfl (only_fn _) rfl ?_
  refine o_insert 0 rfl rfl rfl rfl (only_fn _) rfl ?_
  refine o_insert 0 rfl rfl rfl rfl (only_fn _) rfl ?_
  refine o_move rfl (by decide) ?_
  refine o_assign rfl (by decide) ?_
  refine o_nil ?_
  refine h_ret ?_
  exact retS1 [_] rfl (.refl _) ⟨_, rfl, _, rfl, rfl⟩

theorem step1_ret (x4 x5 : Nat) (er : Int) (c1 c2 c3 c4 c5 : AV) : DefE Try.prog 60 [.ptr x4 0, .ptr x5 0] .returning [(x5, .box 39 [I er]), (x4, .box 29 [c1, c2, c3, c4, c5])] (fun h' => h' = [(x5, .box 39 [I er]), (x4, .box 29 [c1, c2, c3, c4, c5])]) := by
  refine defE_rec (N := 16) (v := .nilIface) (u' := .returning) Try.func60 rfl rfl rfl rfl (by decide) (by decide) (.inl ⟨rfl, rfl, rfl⟩) ?_
  intro X
  refine h_seq ?_
  refine h_region ?_
  refine o_move rfl (by decide) ?_
  refine o_assertn rfl (by decide) ?_
  refine o_move rfl (by decide) ?_
  refine o_extract rfl rfl (by decide) ?_
  refine o_extract rfl rfl (by decide) ?_
  refine o_alloc (by decide) fun x2 => ?_
  refine o_store 0 rfl rfl rfl rfl rfl rfl ?_
  refine o_assign rfl (by decide) ?_
  refine o_nil ?_
  refine h_seq ?_
  refine h_region ?_
  refine o_move rfl (by decide) ?_
  refine o_nil ?_
  refine h_condf rfl rfl ?_
  refine h_seq ?_
  refine h_region ?_
  refine o_move rfl (by decide) ?_
  refine o_neqi0 rfl (by decide) ?_
  refine o_nil ?_
  refine h_condf rfl rfl ?_
  refine h_skip ?_
  exact ⟨rfl, _, .cons _ (.refl _), rfl⟩
theorem step1_pan (x4 x5 : Nat) (er : Int) (c1 c2 c3 c4 c5 : AV) : DefE Try.prog 60 [.ptr x4 0, .ptr x5 0] (.panicking impC) [(x5, .box 39 [I er]), (x4, .box 29 [c1, c2, c3, c4, c5])] (fun h' => h' = [(x5, .box 39 [I 420]), (x4, .box 29 [I 0, I 0, V [] true, V [] true, V [] true])]) := by
  refine defE_rec (N := 16) (v := impV) (u' := .panicking [{ v := impV, recovered := true }]) Try.func60 rfl rfl rfl rfl (by decide) (by decide) (.inr ⟨rfl, rfl⟩) ?_
  intro X
  refine h_seq ?_
  refine h_region ?_
  refine o_move rfl (by decide) ?_
  refine o_asserty rfl (by decide) ?_
  refine o_move rfl (by decide) ?_
  refine o_extract rfl rfl (by decide) ?_
  refine o_extract rfl rfl (by decide) ?_
  refine o_alloc (by decide) fun x3 => ?_
  refine o_store 0 rfl rfl rfl rfl rfl rfl ?_
  refine o_assign rfl (by decide) ?_
  refine o_nil ?_
  refine h_seq ?_
  refine h_region ?_
  refine o_move rfl (by decide) ?_
  refine o_nil ?_
  refine h_condt rfl rfl ?_
  refine h_region ?_
  refine o_build rfl rfl (by decide) ?_
  refine o_store 2 rfl rfl rfl rfl rfl rfl ?_
  refine o_store 1 rfl rfl rfl rfl rfl rfl ?_
  refine o_nil ?_
  exact ⟨rfl, _, .cons _ (.refl _), rfl⟩
end Go.Proofs.Ytbnonekkjjcdgaa
