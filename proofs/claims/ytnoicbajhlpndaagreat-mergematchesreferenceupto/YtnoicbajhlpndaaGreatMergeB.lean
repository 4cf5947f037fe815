/- The walks of package merge: merge, split, windUp. -/
import Derived.Test.YtnoicbajhlpndaaGreatMergeA
namespace Go.Proofs.YtnoicbajhlpndaaGreat
open Go Go.RowKit Go.Shelf Hp
set_option maxRecDepth 10000
set_option maxHeartbeats 1000000
set_option linter.unusedVariables false
set_option linter.unusedSimpArgs false
attribute [local irreducible] WP WPs FnX IterX YdX RetP PanP Ch Back Join
def mergeW (w : Wd) (e : Ev) : Option Wd :=
  if (bareE e && decide (e.c = 0) && hasC w.alive e.b && decide (e.a ≠ e.b)) = false then none else
  if (swapB w.blocks e.a e.b).2 ≠ 0 then none else
  some (endW { w with blocks := (swapB w.blocks e.a e.b).1, bal := w.bal.set e.b.toNat (w.bal.getD e.b.toNat 0 + w.bal.getD e.a.toNat 0) } e.a)
def splitW (w : Wd) (e : Ev) : Option Wd :=
  if (fullE e && decide (e.c = 0) && !hasC w.ever e.b) = false then none else
  if (onlyB w.blocks e.f e.to).2 ≠ 0 then none else
  if (swapB (onlyB w.blocks e.f e.to).1 e.a e.b).2 ≠ 0 then none else
  if (overlayB w.blocks (swapB (onlyB w.blocks e.f e.to).1 e.a e.b).1).2 ≠ 0 then none else
  some { alive := bits64 .or w.alive (1 * 2 ^ e.b.toNat), ever := bits64 .or w.ever (1 * 2 ^ e.b.toNat), blocks := (overlayB w.blocks (swapB (onlyB w.blocks e.f e.to).1 e.a e.b).1).1,
         bal := (w.bal.set e.a.toNat (w.bal.getD e.a.toNat 0 - e.m)).set e.b.toNat e.m, lev := w.lev.set e.b.toNat (w.lev.getD e.a.toNat 0) }
def windBal (w : Wd) (e : Ev) : List Int := w.bal.set e.b.toNat (w.bal.getD e.b.toNat 0 + e.m)
def windW (w : Wd) (e : Ev) : Option Wd :=
  if (fullE e && hasC w.alive e.b && hasC w.alive e.c && decide (e.a ≠ e.b) && decide (e.a ≠ e.c)) = false then none else
  if (onlyB w.blocks e.f e.to).2 ≠ 0 then none else
  if (swapB (onlyB w.blocks e.f e.to).1 e.a e.b).2 ≠ 0 then none else
  if (swapB w.blocks e.a e.c).2 ≠ 0 then none else
  if (overlayB (swapB w.blocks e.a e.c).1 (swapB (onlyB w.blocks e.f e.to).1 e.a e.b).1).2 ≠ 0 then none else
  some (endW { w with blocks := (overlayB (swapB w.blocks e.a e.c).1 (swapB (onlyB w.blocks e.f e.to).1 e.a e.b).1).1,
                      bal := (windBal w e).set e.c.toNat ((windBal w e).getD e.c.toNat 0 + ((windBal w e).getD e.a.toNat 0 - e.m)) } e.a)
/-- What an event does, or that it is impossible. -/
abbrev DoR (o : Option Wd) (x b1 b2 c1 c2 : Nat) : AEnd → AHeap → Prop := fun E h' => (∃ w' f', o = some w' ∧ E = .ret (.tup []) ∧ h' = WH w' f' x b1 b2 c1 c2) ∨ (o = none ∧ E = .pan impC)
theorem bal_bound {w : Wd} (hv : VParts w) (i : Nat) : -1000000000000 ≤ w.bal.getD i 0 ∧ w.bal.getD i 0 ≤ 1000000000000 := by
  by_cases h : i < 8
  · have := hv.ok i h; simp only [okAt, Bool.and_eq_true] at this; exact money_of this.1.1
  · have : w.bal.getD i 0 = 0 := by have := hv.lb; simp; rw [List.getElem?_eq_none (by omega)]; rfl
    omega
theorem full_money {e : Ev} (h : fullE e = true) : -1000000000000 ≤ e.m ∧ e.m ≤ 1000000000000 := by
  simp only [fullE, Bool.and_eq_true] at h; exact money_of h.2
theorem getD_set_bound {l : List Int} {b : Int} {i j : Nat} {v : Int} (h : ∀ k, -b ≤ l.getD k 0 ∧ l.getD k 0 ≤ b) {d : Int} (hd : b ≤ d) (hv : -d ≤ v ∧ v ≤ d) : -d ≤ (l.set i v).getD j 0 ∧ (l.set i v).getD j 0 ≤ d := by
  simp only [List.getD_eq_getElem?_getD, List.getElem?_set] at h ⊢
  have hj := h j
  split
  · split
    · simpa using hv
    · have := h j; rename_i h1 h2; subst h1; simp; omega
  · omega
theorem windBal_bound {w : Wd} {e : Ev} (hv : VParts w) (hf : fullE e = true) (i : Nat) : -2000000000000 ≤ (windBal w e).getD i 0 ∧ (windBal w e).getD i 0 ≤ 2000000000000 :=
  getD_set_bound (b := 1000000000000) (d := 2000000000000) (bal_bound hv) (by omega) (by have := full_money hf; have := bal_bound hv e.b.toNat; omega)
theorem merge_do (w : Wd) (f : Bool) (x b1 b2 c1 c2 : Nat) (e : Ev) (hv : VParts w) (ha0 : 0 ≤ e.a) (ha7 : e.a ≤ 7) (hb0 : 0 ≤ e.b) (hb7 : e.b ≤ 7) (hc0 : 0 ≤ e.c) (hc7 : e.c ≤ 7) : FnE Tryz.prog 167 [.ptr x 0, encE e] (WH w f x b1 b2 c1 c2) (DoR (mergeW w e) x b1 b2 c1 c2) := by
  refine fnE_intro (N := 67) Tryz.func167 rfl rfl rfl ?_
  intro X
  refine h_seq<|H<|o_box Z Z K fun x1 => o_nil<|h_seq<|h_draw _ (List.nil_sublist _) [(0, .val), (1, .flo), (2, .flo), (3, .flo), (4, .val), (5, .flo), (6, .flo), (7, .flo), (8, .flo), (9, .flo), (10, .flo), (11, .flo), (12, .val), (13, .flo), (14, .val), (15, .flo), (16, .flo), (17, .flo), (18, .flo), (19, .val), (20, .flo), (21, .val), (22, .flo), (23, .flo), (24, .bar)] mixed (by kernel_rfl)<|c_val Z Z (fun _ _ _ _ jj => O 0 Z Z Z Z K jj)<|C Z Z (fun jj => o_call1 Z Z EntC.out K (isBare_spec _) jj)<|C Z Z (fun jj => G Z K jj)<|c_split (t := 6) rfl (fun g3 => ?_) (fun g3 => ?_)
  ·
    have g3 : _ = true := g3
    refine C Z Z (fun jj => W Z Z g3 K (F Z Z K K jj))<|c_val Z Z (fun _ _ _ _ jj => W Z Z g3 K (O 0 Z Z Z Z K jj))<|C Z Z (fun jj => W Z Z g3 K (o_cmp Z Z Z K jj))<|C Z Z (fun jj => o_pickt Z g3 rfl K jj)<|C Z Z (fun jj => G Z K jj)<|c_split (t := 11) rfl (fun g5 => ?_) (fun g5 => ?_)
    ·
      have g5 : _ = true := g5
      refine C Z Z (fun jj => W Z Z g5 K (G Z K jj))<|C Z Z (fun jj => W Z Z g5 K (o_nilp Z K jj))<|C Z Z (fun jj => W Z Z g5 K (F Z Z K K jj))<|C Z Z (fun jj => W Z Z g5 K (F Z Z K K jj))<|c_val Z Z (fun _ _ _ _ jj => W Z Z g5 K (O 1 Z Z Z Z K jj))<|C Z Z (fun jj => W Z Z g5 K (F Z Z K K jj))<|c_val Z Z (fun _ _ _ _ jj => W Z Z g5 K (O 0 Z Z Z Z K jj)) ?_
      refine C Z Z (fun jj => W Z Z g5 K (o_call1 Z Z EntC.out K (has_spec _ _ (by omega) (by omega)) jj))<|C Z Z (fun jj => o_pickt Z g5 rfl K jj)<|C Z Z (fun jj => G Z K jj)<|c_split (t := 21) rfl (fun g7 => ?_) (fun g7 => ?_)
      ·
        have g7 : _ = true := g7
        refine C Z Z (fun jj => W Z Z g7 K (F Z Z K K jj))<|c_val Z Z (fun _ _ _ _ jj => W Z Z g7 K (O 0 Z Z Z Z K jj))<|C Z Z (fun jj => W Z Z g7 K (F Z Z K K jj))<|c_val Z Z (fun _ _ _ _ jj => W Z Z g7 K (O 0 Z Z Z Z K jj))<|C Z Z (fun jj => W Z Z g7 K (o_cmp Z Z Z K jj))<|C Z Z (fun jj => o_pickt Z g7 rfl K jj)<|c_bar<|o_need Z Z K (fun hn28 => ?_) (fun hn28 => panK (.inr ⟨(by unfold mergeW; rw [if_pos (by simp_all)]), rfl⟩))
        refine o_nil<|h_seq<|h_draw _ (List.nil_sublist _) [(0, .flo), (1, .flo), (2, .flo), (3, .flo), (4, .flo), (5, .val), (6, .flo), (7, .val), (8, .flo), (9, .val), (10, .flo), (11, .flo), (12, .flo), (13, .bar)] mixed (by kernel_rfl)<|C Z Z (fun jj => G Z K jj)<|C Z Z (fun jj => G Z K jj)<|C Z Z (fun jj => o_nilp Z K jj)<|C Z Z (fun jj => F Z Z K K jj)<|C Z Z (fun jj => F Z Z K K jj)<|c_val Z Z (fun _ _ _ _ jj => O 1 Z Z Z Z K jj)<|C Z Z (fun jj => F Z Z K K jj)<|c_val Z Z (fun _ _ _ _ jj => O 0 Z Z Z Z K jj)<|C Z Z (fun jj => F Z Z K K jj) ?_
        refine c_val Z Z (fun _ _ _ _ jj => O 0 Z Z Z Z K jj)<|C Z Z (fun jj => o_call1 Z Z EntC.out K (swap_spec _ _ _ _) jj)<|C Z Z (fun jj => o_extract Z Z K jj)<|C Z Z (fun jj => o_extract Z Z K jj)<|c_bar<|o_callRE (h2 := [(x1, .box 41 [I e.kind, I e.t, I e.a, I e.b, I e.c, I e.f, I e.to, I e.m])]) rfl rfl rfl EntC.out K (set_spec w f x b1 b2 c1 c2 _ _ _) (fun v h' hr => ?_) (fun c h' hr => ?_)
        rotate_left
        ·
          obtain ⟨_, h2, _⟩ | ⟨h1, h2⟩ := hr
          · cases h2
          · cases h2; exact panK (.inr ⟨(by unfold mergeW; rw [if_neg (by simp_all), if_pos (by simp_all)]), rfl⟩)
        obtain ⟨hs, h2, rfl⟩ | ⟨_, h2⟩ := hr
        rotate_left
        · cases h2
        cases h2
        refine o_nil<|h_seq<|h_draw _ (.cons_cons _ (.cons_cons _ (.cons _ (.cons _ (List.nil_sublist _))))) [(0, .flo), (1, .flo), (2, .flo), (3, .flo), (4, .box), (5, .flo), (6, .box), (7, .flo), (8, .val), (9, .flo), (10, .flo), (11, .flo), (12, .flo), (13, .box), (14, .flo), (15, .box), (16, .flo), (17, .val), (18, .flo), (19, .flo), (20, .sto)] mixed (by kernel_rfl)<|C Z Z (fun jj => G Z K jj)<|C Z Z (fun jj => o_nilp Z K jj)<|C Z Z (fun jj => F Z Z K K jj)<|C Z Z (fun jj => F Z Z K K jj)<|c_box Z Z (fun _ _ _ _ jj => O 1 Z Z Z Z K jj)<|C Z Z (fun jj => F Z Z K K jj)<|c_box Z Z (fun _ _ _ _ jj => O 0 Z Z Z Z K jj)<|C Z Z (fun jj => o_idxo Z Z (by omega) (by omega) K jj)<|c_val Z Z (fun _ _ _ _ jj => o_loade 2 Z Z (eltW (by simp [hv.lb, hv.ll, windBal]; omega)) rfl rfl K jj) ?_
        refine C Z Z (fun jj => G Z K jj)<|C Z Z (fun jj => o_nilp Z K jj)<|C Z Z (fun jj => F Z Z K K jj)<|C Z Z (fun jj => F Z Z K K jj)<|c_box Z Z (fun _ _ _ _ jj => O 1 Z Z Z Z K jj)<|C Z Z (fun jj => F Z Z K K jj)<|c_box Z Z (fun _ _ _ _ jj => O 0 Z Z Z Z K jj)<|C Z Z (fun jj => o_idxo Z Z (by omega) (by omega) K jj)<|c_val Z Z (fun _ _ _ _ jj => o_loade 2 Z Z (eltW (by simp [hv.lb, hv.ll, windBal]; omega)) rfl rfl K jj) ?_
        refine C Z Z (fun jj => o_add Z Z (by have h1 := bal_bound hv e.a.toNat; have h2 := bal_bound hv e.b.toNat; unfold in64; (try dsimp only); omega) K jj) ?_
        refine C Z Z (fun jj => o_idxo Z Z (by omega) (by omega) K jj) ?_
        refine c_sto (.cons_cons _ (.cons_cons _ (.cons _ (.cons _ (List.nil_sublist _))))) rfl rfl (fun _ _ _ _ jj => o_storee 2 Z Z (eltW (by simp [hv.lb, hv.ll, windBal]; omega)) rfl rfl rfl rfl (by simp [encI]) jj) ?_
        refine c_nil<|h_heap (h' := (x1, .box 41 [I e.kind, I e.t, I e.a, I e.b, I e.c, I e.f, I e.to, I e.m]) :: WH { w with blocks := (swapB w.blocks e.a e.b).1, bal := w.bal.set e.b.toNat (w.bal.getD e.b.toNat 0 + w.bal.getD e.a.toNat 0) } (swapB w.blocks e.a e.b).1.isEmpty x b1 b2 c1 c2) (by simp only [WH, Nat.zero_add, setEnc, windBal] <;> rfl) ?_
        refine H<|G Z K<|F Z Z K K<|O 0 Z Z Z Z K<|o_callR (h2 := [(x1, .box 41 [I e.kind, I e.t, I e.a, I e.b, I e.c, I e.f, I e.to, I e.m])]) rfl rfl rfl EntC.out K (end_spec { w with blocks := (swapB w.blocks e.a e.b).1, bal := w.bal.set e.b.toNat (w.bal.getD e.b.toNat 0 + w.bal.getD e.a.toNat 0) } _ x b1 b2 c1 c2 e.a ha0 ha7 (by simp [hv.lb, windBal]) (by simp [hv.ll])) fun v h' hr => ?_
        obtain ⟨rfl, rfl⟩ := hr
        exact o_nil<|retS0 _ (.cons _ (.refl _)) (.inl ⟨_, _, (by unfold mergeW; rw [if_neg (by simp_all), if_neg (by simp_all)]), rfl, rfl⟩)
      ·
        have g7 : _ = false := g7
        refine C Z Z (fun jj => U Z Z g7 K jj)<|c_val Z Z (fun _ _ _ _ jj => U Z Z g7 K jj)<|C Z Z (fun jj => U Z Z g7 K jj)<|c_val Z Z (fun _ _ _ _ jj => U Z Z g7 K jj)<|C Z Z (fun jj => U Z Z g7 K jj)<|C Z Z (fun jj => o_pickf Z g7 rfl K jj)<|c_bar<|o_need Z Z K (fun hn28 => absurd hn28 (by simp_all)) (fun hn28 => panK (.inr ⟨(by unfold mergeW; rw [if_pos (by simp_all)]), rfl⟩))
    ·
      have g5 : _ = false := g5
      refine C Z Z (fun jj => U Z Z g5 K jj)<|C Z Z (fun jj => U Z Z g5 K jj)<|C Z Z (fun jj => U Z Z g5 K jj)<|C Z Z (fun jj => U Z Z g5 K jj)<|c_val Z Z (fun _ _ _ _ jj => U Z Z g5 K jj)<|C Z Z (fun jj => U Z Z g5 K jj)<|c_val Z Z (fun _ _ _ _ jj => U Z Z g5 K jj)<|C Z Z (fun jj => U Z Z g5 K jj)<|C Z Z (fun jj => o_pickf Z g5 rfl K jj)<|C Z Z (fun jj => G Z K jj)<|C Z Z (fun jj => U Z Z Z K jj)<|c_val Z Z (fun _ _ _ _ jj => U Z Z Z K jj) ?_
      refine C Z Z (fun jj => U Z Z Z K jj)<|c_val Z Z (fun _ _ _ _ jj => U Z Z Z K jj)<|C Z Z (fun jj => U Z Z Z K jj)<|C Z Z (fun jj => o_pickf Z Z Z K jj)<|c_bar<|o_need Z Z K (fun hn28 => absurd hn28 (by simp_all)) (fun hn28 => panK (.inr ⟨(by unfold mergeW; rw [if_pos (by simp_all)]), rfl⟩))
  ·
    have g3 : _ = false := g3
    refine C Z Z (fun jj => U Z Z g3 K jj)<|c_val Z Z (fun _ _ _ _ jj => U Z Z g3 K jj)<|C Z Z (fun jj => U Z Z g3 K jj)<|C Z Z (fun jj => o_pickf Z g3 rfl K jj)<|C Z Z (fun jj => G Z K jj)<|C Z Z (fun jj => U Z Z Z K jj)<|C Z Z (fun jj => U Z Z Z K jj)<|C Z Z (fun jj => U Z Z Z K jj)<|C Z Z (fun jj => U Z Z Z K jj)<|c_val Z Z (fun _ _ _ _ jj => U Z Z Z K jj)<|C Z Z (fun jj => U Z Z Z K jj)<|c_val Z Z (fun _ _ _ _ jj => U Z Z Z K jj) ?_
    refine C Z Z (fun jj => U Z Z Z K jj)<|C Z Z (fun jj => o_pickf Z Z Z K jj)<|C Z Z (fun jj => G Z K jj)<|C Z Z (fun jj => U Z Z Z K jj)<|c_val Z Z (fun _ _ _ _ jj => U Z Z Z K jj)<|C Z Z (fun jj => U Z Z Z K jj)<|c_val Z Z (fun _ _ _ _ jj => U Z Z Z K jj)<|C Z Z (fun jj => U Z Z Z K jj)<|C Z Z (fun jj => o_pickf Z Z Z K jj)<|c_bar<|o_need Z Z K (fun hn28 => absurd hn28 (by simp_all)) (fun hn28 => panK (.inr ⟨(by unfold mergeW; rw [if_pos (by simp_all)]), rfl⟩))

theorem split_do (w : Wd) (f : Bool) (x b1 b2 c1 c2 : Nat) (e : Ev) (hv : VParts w) (ha0 : 0 ≤ e.a) (ha7 : e.a ≤ 7) (hb0 : 0 ≤ e.b) (hb7 : e.b ≤ 7) (hc0 : 0 ≤ e.c) (hc7 : e.c ≤ 7) : FnE Tryz.prog 168 [.ptr x 0, encE e] (WH w f x b1 b2 c1 c2) (DoR (splitW w e) x b1 b2 c1 c2) := by
  refine fnE_intro (N := 126) Tryz.func168 rfl rfl rfl ?_
  intro X
  refine h_seq<|H<|o_box Z Z K fun x9 => o_nil<|h_seq<|h_draw _ (List.nil_sublist _) [(0, .val), (1, .flo), (2, .flo), (3, .flo), (4, .val), (5, .flo), (6, .flo), (7, .flo), (8, .flo), (9, .flo), (10, .flo), (11, .flo), (12, .val), (13, .flo), (14, .val), (15, .flo), (16, .flo), (17, .flo), (18, .bar)] mixed (by kernel_rfl)<|c_val Z Z (fun _ _ _ _ jj => O 0 Z Z Z Z K jj)<|C Z Z (fun jj => o_call1 Z Z EntC.out K (isFull_spec _) jj)<|C Z Z (fun jj => G Z K jj)<|c_split (t := 8) rfl (fun g11 => ?_) (fun g11 => ?_)
  ·
    have g11 : _ = true := g11
    refine C Z Z (fun jj => W Z Z g11 K (F Z Z K K jj))<|c_val Z Z (fun _ _ _ _ jj => W Z Z g11 K (O 0 Z Z Z Z K jj))<|C Z Z (fun jj => W Z Z g11 K (o_cmp Z Z Z K jj))<|C Z Z (fun jj => o_pickt Z g11 rfl K jj)<|C Z Z (fun jj => G Z K jj)<|c_split (t := 13) rfl (fun g13 => ?_) (fun g13 => ?_)
    ·
      have g13 : _ = true := g13
      refine C Z Z (fun jj => W Z Z g13 K (G Z K jj))<|C Z Z (fun jj => W Z Z g13 K (o_nilp Z K jj))<|C Z Z (fun jj => W Z Z g13 K (F Z Z K K jj))<|C Z Z (fun jj => W Z Z g13 K (F Z Z K K jj))<|c_val Z Z (fun _ _ _ _ jj => W Z Z g13 K (O 1 Z Z Z Z K jj))<|C Z Z (fun jj => W Z Z g13 K (F Z Z K K jj))<|c_val Z Z (fun _ _ _ _ jj => W Z Z g13 K (O 0 Z Z Z Z K jj)) ?_
      refine C Z Z (fun jj => W Z Z g13 K (o_call1 Z Z EntC.out K (has_spec _ _ (by omega) (by omega)) jj))<|C Z Z (fun jj => W Z Z g13 K (o_not Z K jj))<|C Z Z (fun jj => o_pickt Z g13 rfl K jj)<|c_bar<|o_need Z Z K (fun hn24 => ?_) (fun hn24 => panK (.inr ⟨(by unfold splitW; rw [if_pos (by simp_all)]), rfl⟩))
      refine o_nil<|h_seq<|h_draw _ (List.nil_sublist _) [(0, .flo), (1, .flo), (2, .flo), (3, .flo), (4, .val), (5, .flo), (6, .val), (7, .flo), (8, .flo), (9, .flo), (10, .flo), (11, .flo), (12, .flo)] mixed (by kernel_rfl)<|C Z Z (fun jj => G Z K jj)<|C Z Z (fun jj => o_nilp Z K jj)<|C Z Z (fun jj => F Z Z K K jj)<|C Z Z (fun jj => F Z Z K K jj)<|c_val Z Z (fun _ _ _ _ jj => O 1 Z Z Z Z K jj)<|C Z Z (fun jj => F Z Z K K jj)<|c_val Z Z (fun _ _ _ _ jj => O 0 Z Z Z Z K jj)<|C Z Z (fun jj => o_call1 Z Z EntC.out K (only_spec _ _ _ _) jj)<|C Z Z (fun jj => G Z K jj) ?_
      refine C Z Z (fun jj => o_extract Z Z K jj)<|C Z Z (fun jj => o_extract Z Z K jj)<|C Z Z (fun jj => S Z K jj)<|C Z Z (fun jj => S Z K jj)<|c_nil<|h_seq<|H<|G Z K<|o_cmp Z Z Z K<|o_need Z Z K (fun hn38 => ?_) (fun hn38 => panK (.inr ⟨(by unfold splitW; rw [if_neg (by simp_all), if_pos (by simp_all)]), rfl⟩))
      refine o_nil<|h_seq<|H<|G Z K<|F Z Z K K<|O 0 Z Z Z Z K<|F Z Z K K<|O 0 Z Z Z Z K<|o_call1 Z Z EntC.out K (swap_spec _ _ _ _)<|G Z K<|o_extract Z Z K<|o_extract Z Z K ?_
      refine S Z K<|S Z K<|o_nil<|h_seq<|H<|G Z K<|o_cmp Z Z Z K<|o_need Z Z K (fun hn50 => ?_) (fun hn50 => panK (.inr ⟨(by unfold splitW; rw [if_neg (by simp_all), if_neg (by simp_all), if_pos (by simp_all)]), rfl⟩))
      refine o_nil<|h_seq<|H<|G Z K<|G Z K<|o_nilp Z K<|F Z Z K K<|F Z Z K K<|O 1 Z Z Z Z K<|G Z K<|o_call1 Z Z EntC.out K (overlay_spec _ _ _ _)<|o_extract Z Z K ?_
      refine o_extract Z Z K<|o_callRE (h2 := [(x9, .box 41 [I e.kind, I e.t, I e.a, I e.b, I e.c, I e.f, I e.to, I e.m])]) rfl rfl rfl EntC.out K (set_spec w f x b1 b2 c1 c2 _ _ _) (fun v h' hr => ?_) (fun c h' hr => ?_)
      rotate_left
      ·
        obtain ⟨_, h2, _⟩ | ⟨h1, h2⟩ := hr
        · cases h2
        · cases h2; exact panK (.inr ⟨(by unfold splitW; rw [if_neg (by simp_all), if_neg (by simp_all), if_neg (by simp_all), if_pos (by simp_all)]), rfl⟩)
      obtain ⟨hs, h2, rfl⟩ | ⟨_, h2⟩ := hr
      rotate_left
      · cases h2
      cases h2
      refine o_nil<|h_seq<|h_draw _ (.cons_cons _ (.cons _ (.cons _ (.cons _ (List.nil_sublist _))))) [(0, .flo), (1, .flo), (2, .flo), (3, .flo), (4, .val), (5, .flo), (6, .box), (7, .flo), (8, .flo), (9, .flo), (10, .flo), (11, .flo), (12, .sto)] mixed (by kernel_rfl)<|C Z Z (fun jj => G Z K jj)<|C Z Z (fun jj => o_nilp Z K jj)<|C Z Z (fun jj => F Z Z K K jj)<|C Z Z (fun jj => F Z Z K K jj)<|c_val Z Z (fun _ _ _ _ jj => O 1 Z Z Z Z K jj)<|C Z Z (fun jj => F Z Z K K jj)<|c_box Z Z (fun _ _ _ _ jj => O 0 Z Z Z Z K jj)<|C Z Z (fun jj => o_shl Z Z (by omega) (by omega) (pow_small hb0 hb7) K jj)<|C Z Z (fun jj => o_bits K rfl rfl K jj) ?_
      refine C Z Z (fun jj => o_nilp Z K jj)<|C Z Z (fun jj => F Z Z K K jj)<|C Z Z (fun jj => F Z Z K K jj) ?_
      refine c_sto (.cons_cons _ (.cons _ (.cons _ (.cons _ (List.nil_sublist _))))) rfl rfl (fun _ _ _ _ jj => o_store 1 Z Z Z Z Z Z jj)<|c_nil<|h_heap (h' := (x9, .box 41 [I e.kind, I e.t, I e.a, I e.b, I e.c, I e.f, I e.to, I e.m]) :: WH { w with blocks := (overlayB w.blocks (swapB (onlyB w.blocks e.f e.to).1 e.a e.b).1).1, alive := bits64 .or w.alive (1 * 2 ^ e.b.toNat) } (overlayB w.blocks (swapB (onlyB w.blocks e.f e.to).1 e.a e.b).1).1.isEmpty x b1 b2 c1 c2) (by simp only [WH, Nat.zero_add, setEnc, windBal] <;> rfl) ?_
      refine h_seq<|h_draw _ (.cons_cons _ (.cons _ (.cons _ (.cons _ (List.nil_sublist _))))) [(0, .flo), (1, .flo), (2, .flo), (3, .flo), (4, .val), (5, .flo), (6, .box), (7, .flo), (8, .flo), (9, .flo), (10, .flo), (11, .flo), (12, .sto)] mixed (by kernel_rfl)<|C Z Z (fun jj => G Z K jj)<|C Z Z (fun jj => o_nilp Z K jj)<|C Z Z (fun jj => F Z Z K K jj)<|C Z Z (fun jj => F Z Z K K jj)<|c_val Z Z (fun _ _ _ _ jj => O 1 Z Z Z Z K jj)<|C Z Z (fun jj => F Z Z K K jj)<|c_box Z Z (fun _ _ _ _ jj => O 0 Z Z Z Z K jj)<|C Z Z (fun jj => o_shl Z Z (by omega) (by omega) (pow_small hb0 hb7) K jj)<|C Z Z (fun jj => o_bits K rfl rfl K jj)<|C Z Z (fun jj => o_nilp Z K jj) ?_
      refine C Z Z (fun jj => F Z Z K K jj)<|C Z Z (fun jj => F Z Z K K jj) ?_
      refine c_sto (.cons_cons _ (.cons _ (.cons _ (.cons _ (List.nil_sublist _))))) rfl rfl (fun _ _ _ _ jj => o_store 1 Z Z Z Z Z Z jj)<|c_nil<|h_heap (h' := (x9, .box 41 [I e.kind, I e.t, I e.a, I e.b, I e.c, I e.f, I e.to, I e.m]) :: WH { w with blocks := (overlayB w.blocks (swapB (onlyB w.blocks e.f e.to).1 e.a e.b).1).1, alive := bits64 .or w.alive (1 * 2 ^ e.b.toNat), ever := bits64 .or w.ever (1 * 2 ^ e.b.toNat) } (overlayB w.blocks (swapB (onlyB w.blocks e.f e.to).1 e.a e.b).1).1.isEmpty x b1 b2 c1 c2) (by simp only [WH, Nat.zero_add, setEnc, windBal] <;> rfl) ?_
      refine h_seq<|h_draw _ (.cons_cons _ (.cons_cons _ (.cons _ (.cons _ (List.nil_sublist _))))) [(0, .flo), (1, .flo), (2, .flo), (3, .flo), (4, .box), (5, .flo), (6, .box), (7, .flo), (8, .val), (9, .flo), (10, .box), (11, .flo), (12, .flo), (13, .sto)] mixed (by kernel_rfl)<|C Z Z (fun jj => G Z K jj)<|C Z Z (fun jj => o_nilp Z K jj)<|C Z Z (fun jj => F Z Z K K jj)<|C Z Z (fun jj => F Z Z K K jj)<|c_box Z Z (fun _ _ _ _ jj => O 1 Z Z Z Z K jj)<|C Z Z (fun jj => F Z Z K K jj)<|c_box Z Z (fun _ _ _ _ jj => O 0 Z Z Z Z K jj)<|C Z Z (fun jj => o_idxo Z Z (by omega) (by omega) K jj)<|c_val Z Z (fun _ _ _ _ jj => o_loade 2 Z Z (eltW (by simp [hv.lb, hv.ll, windBal]; omega)) rfl rfl K jj) ?_
      refine C Z Z (fun jj => F Z Z K K jj)<|c_box Z Z (fun _ _ _ _ jj => O 0 Z Z Z Z K jj)<|C Z Z (fun jj => o_sub Z Z (by have h1 := bal_bound hv e.a.toNat; have h2 := full_money (e := e) (by simp_all); unfold in64; (try dsimp only); omega) K jj) ?_
      refine C Z Z (fun jj => o_idxo Z Z (by omega) (by omega) K jj) ?_
      refine c_sto (.cons_cons _ (.cons_cons _ (.cons _ (.cons _ (List.nil_sublist _))))) rfl rfl (fun _ _ _ _ jj => o_storee 2 Z Z (eltW (by simp [hv.lb, hv.ll, windBal]; omega)) rfl rfl rfl rfl (by simp [encI]) jj) ?_
      refine c_nil<|h_heap (h' := (x9, .box 41 [I e.kind, I e.t, I e.a, I e.b, I e.c, I e.f, I e.to, I e.m]) :: WH { alive := bits64 .or w.alive (1 * 2 ^ e.b.toNat), ever := bits64 .or w.ever (1 * 2 ^ e.b.toNat), blocks := (overlayB w.blocks (swapB (onlyB w.blocks e.f e.to).1 e.a e.b).1).1, bal := w.bal.set e.a.toNat (w.bal.getD e.a.toNat 0 - e.m), lev := w.lev } (overlayB w.blocks (swapB (onlyB w.blocks e.f e.to).1 e.a e.b).1).1.isEmpty x b1 b2 c1 c2) (by simp only [WH, Nat.zero_add, setEnc, windBal] <;> rfl) ?_
      refine h_draw _ (.cons_cons _ (.cons_cons _ (.cons _ (.cons _ (List.nil_sublist _))))) [(0, .flo), (1, .flo), (2, .flo), (3, .flo), (4, .box), (5, .flo), (6, .box), (7, .flo), (8, .flo), (9, .flo), (10, .flo), (11, .box), (12, .flo), (13, .box), (14, .flo), (15, .box), (16, .flo), (17, .flo), (18, .flo), (19, .flo), (20, .box), (21, .flo), (22, .box), (23, .flo), (24, .val), (25, .flo), (26, .sto), (27, .flo), (28, .sto)] mixed (by kernel_rfl)<|C Z Z (fun jj => G Z K jj)<|C Z Z (fun jj => o_nilp Z K jj)<|C Z Z (fun jj => F Z Z K K jj)<|C Z Z (fun jj => F Z Z K K jj)<|c_box Z Z (fun _ _ _ _ jj => O 1 Z Z Z Z K jj)<|C Z Z (fun jj => F Z Z K K jj)<|c_box Z Z (fun _ _ _ _ jj => O 0 Z Z Z Z K jj)<|C Z Z (fun jj => G Z K jj)<|C Z Z (fun jj => o_nilp Z K jj)<|C Z Z (fun jj => F Z Z K K jj)<|C Z Z (fun jj => F Z Z K K jj) ?_
      refine c_box Z Z (fun _ _ _ _ jj => O 1 Z Z Z Z K jj)<|C Z Z (fun jj => F Z Z K K jj)<|c_box Z Z (fun _ _ _ _ jj => O 0 Z Z Z Z K jj)<|C Z Z (fun jj => F Z Z K K jj)<|c_box Z Z (fun _ _ _ _ jj => O 0 Z Z Z Z K jj)<|C Z Z (fun jj => G Z K jj)<|C Z Z (fun jj => o_nilp Z K jj)<|C Z Z (fun jj => F Z Z K K jj)<|C Z Z (fun jj => F Z Z K K jj)<|c_box Z Z (fun _ _ _ _ jj => O 1 Z Z Z Z K jj)<|C Z Z (fun jj => F Z Z K K jj)<|c_box Z Z (fun _ _ _ _ jj => O 0 Z Z Z Z K jj) ?_
      refine C Z Z (fun jj => o_idxo Z Z (by omega) (by omega) K jj)<|c_val Z Z (fun _ _ _ _ jj => o_loade 3 Z Z (eltW (by simp [hv.lb, hv.ll, windBal]; omega)) rfl rfl K jj) ?_
      refine C Z Z (fun jj => o_idxo Z Z (by omega) (by omega) K jj) ?_
      refine c_sto (.cons_cons _ (.cons_cons _ (.cons _ (.cons _ (List.nil_sublist _))))) rfl rfl (fun _ _ _ _ jj => o_storee 2 Z Z (eltW (by simp [hv.lb, hv.ll, windBal]; omega)) rfl rfl rfl rfl (by simp [encI]) jj) ?_
      refine C Z Z (fun jj => o_idxo Z Z (by omega) (by omega) K jj) ?_
      refine c_sto (.cons_cons _ (.cons_cons _ (.cons _ (.cons _ (List.nil_sublist _))))) rfl rfl (fun _ _ _ _ jj => o_storee 3 Z Z (eltW (by simp [hv.lb, hv.ll, windBal]; omega)) rfl rfl rfl rfl (by simp [encI]) jj) ?_
      exact c_nil<|retS0 _ (.cons _ (.refl _)) (.inl ⟨_, _, (by unfold splitW; rw [if_neg (by simp_all), if_neg (by simp_all), if_neg (by simp_all), if_neg (by simp_all)]), rfl, by simp only [WH, Nat.zero_add, setEnc] <;> rfl⟩)
    ·
      have g13 : _ = false := g13
      refine C Z Z (fun jj => U Z Z g13 K jj)<|C Z Z (fun jj => U Z Z g13 K jj)<|C Z Z (fun jj => U Z Z g13 K jj)<|C Z Z (fun jj => U Z Z g13 K jj)<|c_val Z Z (fun _ _ _ _ jj => U Z Z g13 K jj)<|C Z Z (fun jj => U Z Z g13 K jj)<|c_val Z Z (fun _ _ _ _ jj => U Z Z g13 K jj)<|C Z Z (fun jj => U Z Z g13 K jj)<|C Z Z (fun jj => U Z Z g13 K jj)<|C Z Z (fun jj => o_pickf Z g13 rfl K jj)<|c_bar<|o_need Z Z K (fun hn24 => absurd hn24 (by simp_all)) (fun hn24 => panK (.inr ⟨(by unfold splitW; rw [if_pos (by simp_all)]), rfl⟩))
  ·
    have g11 : _ = false := g11
    refine C Z Z (fun jj => U Z Z g11 K jj)<|c_val Z Z (fun _ _ _ _ jj => U Z Z g11 K jj)<|C Z Z (fun jj => U Z Z g11 K jj)<|C Z Z (fun jj => o_pickf Z g11 rfl K jj)<|C Z Z (fun jj => G Z K jj)<|C Z Z (fun jj => U Z Z Z K jj)<|C Z Z (fun jj => U Z Z Z K jj)<|C Z Z (fun jj => U Z Z Z K jj)<|C Z Z (fun jj => U Z Z Z K jj)<|c_val Z Z (fun _ _ _ _ jj => U Z Z Z K jj)<|C Z Z (fun jj => U Z Z Z K jj)<|c_val Z Z (fun _ _ _ _ jj => U Z Z Z K jj) ?_
    refine C Z Z (fun jj => U Z Z Z K jj)<|C Z Z (fun jj => U Z Z Z K jj)<|C Z Z (fun jj => o_pickf Z Z Z K jj)<|c_bar<|o_need Z Z K (fun hn24 => absurd hn24 (by simp_all)) (fun hn24 => panK (.inr ⟨(by unfold splitW; rw [if_pos (by simp_all)]), rfl⟩))

theorem windUp_do (w : Wd) (f : Bool) (x b1 b2 c1 c2 : Nat) (e : Ev) (hv : VParts w) (ha0 : 0 ≤ e.a) (ha7 : e.a ≤ 7) (hb0 : 0 ≤ e.b) (hb7 : e.b ≤ 7) (hc0 : 0 ≤ e.c) (hc7 : e.c ≤ 7) : FnE Tryz.prog 169 [.ptr x 0, encE e] (WH w f x b1 b2 c1 c2) (DoR (windW w e) x b1 b2 c1 c2) := by
  refine fnE_intro (N := 133) Tryz.func169 rfl rfl rfl ?_
  intro X
  refine h_seq<|H<|o_box Z Z K fun x17 => o_nil<|h_seq<|h_draw _ (List.nil_sublist _) [(0, .val), (1, .flo), (2, .flo), (3, .flo), (4, .flo), (5, .flo), (6, .flo), (7, .val), (8, .flo), (9, .val), (10, .flo), (11, .flo), (12, .flo), (13, .flo), (14, .flo), (15, .flo), (16, .flo), (17, .val), (18, .flo), (19, .val), (20, .flo), (21, .flo), (22, .flo), (23, .flo), (24, .val), (25, .flo), (26, .val), (27, .flo), (28, .flo), (29, .flo), (30, .flo), (31, .val), (32, .flo), (33, .val), (34, .flo), (35, .flo), (36, .bar)] mixed (by kernel_rfl)<|c_val Z Z (fun _ _ _ _ jj => O 0 Z Z Z Z K jj)<|C Z Z (fun jj => o_call1 Z Z EntC.out K (isFull_spec _) jj)<|C Z Z (fun jj => G Z K jj)<|c_split (t := 9) rfl (fun g19 => ?_) (fun g19 => ?_)
  ·
    have g19 : _ = true := g19
    refine C Z Z (fun jj => W Z Z g19 K (G Z K jj))<|C Z Z (fun jj => W Z Z g19 K (o_nilp Z K jj))<|C Z Z (fun jj => W Z Z g19 K (F Z Z K K jj))<|C Z Z (fun jj => W Z Z g19 K (F Z Z K K jj))<|c_val Z Z (fun _ _ _ _ jj => W Z Z g19 K (O 1 Z Z Z Z K jj))<|C Z Z (fun jj => W Z Z g19 K (F Z Z K K jj))<|c_val Z Z (fun _ _ _ _ jj => W Z Z g19 K (O 0 Z Z Z Z K jj)) ?_
    refine C Z Z (fun jj => W Z Z g19 K (o_call1 Z Z EntC.out K (has_spec _ _ (by omega) (by omega)) jj))<|C Z Z (fun jj => o_pickt Z g19 rfl K jj)<|C Z Z (fun jj => G Z K jj)<|c_split (t := 19) rfl (fun g21 => ?_) (fun g21 => ?_)
    ·
      have g21 : _ = true := g21
      refine C Z Z (fun jj => W Z Z g21 K (G Z K jj))<|C Z Z (fun jj => W Z Z g21 K (o_nilp Z K jj))<|C Z Z (fun jj => W Z Z g21 K (F Z Z K K jj))<|C Z Z (fun jj => W Z Z g21 K (F Z Z K K jj))<|c_val Z Z (fun _ _ _ _ jj => W Z Z g21 K (O 1 Z Z Z Z K jj))<|C Z Z (fun jj => W Z Z g21 K (F Z Z K K jj))<|c_val Z Z (fun _ _ _ _ jj => W Z Z g21 K (O 0 Z Z Z Z K jj)) ?_
      refine C Z Z (fun jj => W Z Z g21 K (o_call1 Z Z EntC.out K (has_spec _ _ (by omega) (by omega)) jj))<|C Z Z (fun jj => o_pickt Z g21 rfl K jj)<|C Z Z (fun jj => G Z K jj)<|c_split (t := 29) rfl (fun g23 => ?_) (fun g23 => ?_)
      ·
        have g23 : _ = true := g23
        refine C Z Z (fun jj => W Z Z g23 K (F Z Z K K jj))<|c_val Z Z (fun _ _ _ _ jj => W Z Z g23 K (O 0 Z Z Z Z K jj))<|C Z Z (fun jj => W Z Z g23 K (F Z Z K K jj))<|c_val Z Z (fun _ _ _ _ jj => W Z Z g23 K (O 0 Z Z Z Z K jj))<|C Z Z (fun jj => W Z Z g23 K (o_cmp Z Z Z K jj))<|C Z Z (fun jj => o_pickt Z g23 rfl K jj)<|C Z Z (fun jj => G Z K jj)<|c_split (t := 36) rfl (fun g25 => ?_) (fun g25 => ?_)
        ·
          have g25 : _ = true := g25
          refine C Z Z (fun jj => W Z Z g25 K (F Z Z K K jj))<|c_val Z Z (fun _ _ _ _ jj => W Z Z g25 K (O 0 Z Z Z Z K jj))<|C Z Z (fun jj => W Z Z g25 K (F Z Z K K jj))<|c_val Z Z (fun _ _ _ _ jj => W Z Z g25 K (O 0 Z Z Z Z K jj))<|C Z Z (fun jj => W Z Z g25 K (o_cmp Z Z Z K jj))<|C Z Z (fun jj => o_pickt Z g25 rfl K jj)<|c_bar<|o_need Z Z K (fun hn43 => ?_) (fun hn43 => panK (.inr ⟨(by unfold windW; rw [if_pos (by simp_all)]), rfl⟩))
          refine o_nil<|h_seq<|h_draw _ (List.nil_sublist _) [(0, .flo), (1, .flo), (2, .flo), (3, .flo), (4, .val), (5, .flo), (6, .val), (7, .flo), (8, .flo), (9, .flo), (10, .flo), (11, .flo), (12, .flo)] mixed (by kernel_rfl)<|C Z Z (fun jj => G Z K jj)<|C Z Z (fun jj => o_nilp Z K jj)<|C Z Z (fun jj => F Z Z K K jj)<|C Z Z (fun jj => F Z Z K K jj)<|c_val Z Z (fun _ _ _ _ jj => O 1 Z Z Z Z K jj)<|C Z Z (fun jj => F Z Z K K jj)<|c_val Z Z (fun _ _ _ _ jj => O 0 Z Z Z Z K jj)<|C Z Z (fun jj => o_call1 Z Z EntC.out K (only_spec _ _ _ _) jj)<|C Z Z (fun jj => G Z K jj) ?_
          refine C Z Z (fun jj => o_extract Z Z K jj)<|C Z Z (fun jj => o_extract Z Z K jj)<|C Z Z (fun jj => S Z K jj)<|C Z Z (fun jj => S Z K jj)<|c_nil<|h_seq<|H<|G Z K<|o_cmp Z Z Z K<|o_need Z Z K (fun hn57 => ?_) (fun hn57 => panK (.inr ⟨(by unfold windW; rw [if_neg (by simp_all), if_pos (by simp_all)]), rfl⟩))
          refine o_nil<|h_seq<|H<|G Z K<|F Z Z K K<|O 0 Z Z Z Z K<|F Z Z K K<|O 0 Z Z Z Z K<|o_call1 Z Z EntC.out K (swap_spec _ _ _ _)<|G Z K<|o_extract Z Z K<|o_extract Z Z K ?_
          refine S Z K<|S Z K<|o_nil<|h_seq<|H<|G Z K<|o_cmp Z Z Z K<|o_need Z Z K (fun hn69 => ?_) (fun hn69 => panK (.inr ⟨(by unfold windW; rw [if_neg (by simp_all), if_neg (by simp_all), if_pos (by simp_all)]), rfl⟩))
          refine o_nil<|h_seq<|h_draw _ (List.nil_sublist _) [(0, .flo), (1, .flo), (2, .flo), (3, .flo), (4, .val), (5, .flo), (6, .val), (7, .flo), (8, .val), (9, .flo), (10, .flo), (11, .flo), (12, .flo), (13, .flo), (14, .flo)] mixed (by kernel_rfl)<|C Z Z (fun jj => G Z K jj)<|C Z Z (fun jj => o_nilp Z K jj)<|C Z Z (fun jj => F Z Z K K jj)<|C Z Z (fun jj => F Z Z K K jj)<|c_val Z Z (fun _ _ _ _ jj => O 1 Z Z Z Z K jj)<|C Z Z (fun jj => F Z Z K K jj)<|c_val Z Z (fun _ _ _ _ jj => O 0 Z Z Z Z K jj)<|C Z Z (fun jj => F Z Z K K jj)<|c_val Z Z (fun _ _ _ _ jj => O 0 Z Z Z Z K jj) ?_
          refine C Z Z (fun jj => o_call1 Z Z EntC.out K (swap_spec _ _ _ _) jj)<|C Z Z (fun jj => G Z K jj)<|C Z Z (fun jj => o_extract Z Z K jj)<|C Z Z (fun jj => o_extract Z Z K jj)<|C Z Z (fun jj => S Z K jj)<|C Z Z (fun jj => S Z K jj)<|c_nil<|h_seq<|H<|G Z K<|o_cmp Z Z Z K<|o_need Z Z K (fun hn85 => ?_) (fun hn85 => panK (.inr ⟨(by unfold windW; rw [if_neg (by simp_all), if_neg (by simp_all), if_neg (by simp_all), if_pos (by simp_all)]), rfl⟩))
          refine o_nil<|h_seq<|H<|G Z K<|G Z K<|G Z K<|o_call1 Z Z EntC.out K (overlay_spec _ _ _ _)<|o_extract Z Z K<|o_extract Z Z K<|o_callRE (h2 := [(x17, .box 41 [I e.kind, I e.t, I e.a, I e.b, I e.c, I e.f, I e.to, I e.m])]) rfl rfl rfl EntC.out K (set_spec w f x b1 b2 c1 c2 _ _ _) (fun v h' hr => ?_) (fun c h' hr => ?_)
          rotate_left
          ·
            obtain ⟨_, h2, _⟩ | ⟨h1, h2⟩ := hr
            · cases h2
            · cases h2; exact panK (.inr ⟨(by unfold windW; rw [if_neg (by simp_all), if_neg (by simp_all), if_neg (by simp_all), if_neg (by simp_all), if_pos (by simp_all)]), rfl⟩)
          obtain ⟨hs, h2, rfl⟩ | ⟨_, h2⟩ := hr
          rotate_left
          · cases h2
          cases h2
          refine o_nil<|h_seq<|h_draw _ (.cons_cons _ (.cons_cons _ (.cons _ (.cons _ (List.nil_sublist _))))) [(0, .flo), (1, .flo), (2, .flo), (3, .flo), (4, .box), (5, .flo), (6, .box), (7, .flo), (8, .val), (9, .flo), (10, .box), (11, .flo), (12, .flo), (13, .sto)] mixed (by kernel_rfl)<|C Z Z (fun jj => G Z K jj)<|C Z Z (fun jj => o_nilp Z K jj)<|C Z Z (fun jj => F Z Z K K jj)<|C Z Z (fun jj => F Z Z K K jj)<|c_box Z Z (fun _ _ _ _ jj => O 1 Z Z Z Z K jj)<|C Z Z (fun jj => F Z Z K K jj)<|c_box Z Z (fun _ _ _ _ jj => O 0 Z Z Z Z K jj)<|C Z Z (fun jj => o_idxo Z Z (by omega) (by omega) K jj)<|c_val Z Z (fun _ _ _ _ jj => o_loade 2 Z Z (eltW (by simp [hv.lb, hv.ll, windBal]; omega)) rfl rfl K jj) ?_
          refine C Z Z (fun jj => F Z Z K K jj)<|c_box Z Z (fun _ _ _ _ jj => O 0 Z Z Z Z K jj)<|C Z Z (fun jj => o_add Z Z (by have hfe : fullE e = true := (by simp_all); have h1 := bal_bound hv e.b.toNat; have h2 := full_money hfe; have h3 := windBal_bound hv hfe e.a.toNat; have h4 := windBal_bound hv hfe e.c.toNat; unfold in64; (try dsimp only); omega) K jj) ?_
          refine C Z Z (fun jj => o_idxo Z Z (by omega) (by omega) K jj) ?_
          refine c_sto (.cons_cons _ (.cons_cons _ (.cons _ (.cons _ (List.nil_sublist _))))) rfl rfl (fun _ _ _ _ jj => o_storee 2 Z Z (eltW (by simp [hv.lb, hv.ll, windBal]; omega)) rfl rfl rfl rfl (by simp [encI]) jj) ?_
          refine c_nil<|h_heap (h' := (x17, .box 41 [I e.kind, I e.t, I e.a, I e.b, I e.c, I e.f, I e.to, I e.m]) :: WH { w with blocks := (overlayB (swapB w.blocks e.a e.c).1 (swapB (onlyB w.blocks e.f e.to).1 e.a e.b).1).1, bal := windBal w e } (overlayB (swapB w.blocks e.a e.c).1 (swapB (onlyB w.blocks e.f e.to).1 e.a e.b).1).1.isEmpty x b1 b2 c1 c2) (by simp only [WH, Nat.zero_add, setEnc, windBal] <;> rfl) ?_
          refine h_seq<|h_draw _ (.cons_cons _ (.cons_cons _ (.cons _ (.cons _ (List.nil_sublist _))))) [(0, .flo), (1, .flo), (2, .flo), (3, .flo), (4, .box), (5, .flo), (6, .box), (7, .flo), (8, .val), (9, .flo), (10, .flo), (11, .flo), (12, .flo), (13, .box), (14, .flo), (15, .box), (16, .flo), (17, .val), (18, .flo), (19, .box), (20, .flo), (21, .flo), (22, .flo), (23, .sto)] mixed (by kernel_rfl)<|C Z Z (fun jj => G Z K jj)<|C Z Z (fun jj => o_nilp Z K jj)<|C Z Z (fun jj => F Z Z K K jj)<|C Z Z (fun jj => F Z Z K K jj)<|c_box Z Z (fun _ _ _ _ jj => O 1 Z Z Z Z K jj)<|C Z Z (fun jj => F Z Z K K jj)<|c_box Z Z (fun _ _ _ _ jj => O 0 Z Z Z Z K jj)<|C Z Z (fun jj => o_idxo Z Z (by omega) (by omega) K jj)<|c_val Z Z (fun _ _ _ _ jj => o_loade 2 Z Z (eltW (by simp [hv.lb, hv.ll, windBal]; omega)) rfl rfl K jj) ?_
          refine C Z Z (fun jj => G Z K jj)<|C Z Z (fun jj => o_nilp Z K jj)<|C Z Z (fun jj => F Z Z K K jj)<|C Z Z (fun jj => F Z Z K K jj)<|c_box Z Z (fun _ _ _ _ jj => O 1 Z Z Z Z K jj)<|C Z Z (fun jj => F Z Z K K jj)<|c_box Z Z (fun _ _ _ _ jj => O 0 Z Z Z Z K jj)<|C Z Z (fun jj => o_idxo Z Z (by omega) (by omega) K jj)<|c_val Z Z (fun _ _ _ _ jj => o_loade 2 Z Z (eltW (by simp [hv.lb, hv.ll, windBal]; omega)) rfl rfl K jj) ?_
          refine C Z Z (fun jj => F Z Z K K jj)<|c_box Z Z (fun _ _ _ _ jj => O 0 Z Z Z Z K jj)<|C Z Z (fun jj => o_sub Z Z (by have hfe : fullE e = true := (by simp_all); have h1 := bal_bound hv e.b.toNat; have h2 := full_money hfe; have h3 := windBal_bound hv hfe e.a.toNat; have h4 := windBal_bound hv hfe e.c.toNat; unfold in64; (try dsimp only); omega) K jj) ?_
          refine C Z Z (fun jj => o_add Z Z (by have hfe : fullE e = true := (by simp_all); have h1 := bal_bound hv e.b.toNat; have h2 := full_money hfe; have h3 := windBal_bound hv hfe e.a.toNat; have h4 := windBal_bound hv hfe e.c.toNat; unfold in64; (try dsimp only); omega) K jj) ?_
          refine C Z Z (fun jj => o_idxo Z Z (by omega) (by omega) K jj) ?_
          refine c_sto (.cons_cons _ (.cons_cons _ (.cons _ (.cons _ (List.nil_sublist _))))) rfl rfl (fun _ _ _ _ jj => o_storee 2 Z Z (eltW (by simp [hv.lb, hv.ll, windBal]; omega)) rfl rfl rfl rfl (by simp [encI]) jj) ?_
          refine c_nil<|h_heap (h' := (x17, .box 41 [I e.kind, I e.t, I e.a, I e.b, I e.c, I e.f, I e.to, I e.m]) :: WH { w with blocks := (overlayB (swapB w.blocks e.a e.c).1 (swapB (onlyB w.blocks e.f e.to).1 e.a e.b).1).1, bal := (windBal w e).set e.c.toNat ((windBal w e).getD e.c.toNat 0 + ((windBal w e).getD e.a.toNat 0 - e.m)) } (overlayB (swapB w.blocks e.a e.c).1 (swapB (onlyB w.blocks e.f e.to).1 e.a e.b).1).1.isEmpty x b1 b2 c1 c2) (by simp only [WH, Nat.zero_add, setEnc, windBal] <;> rfl) ?_
          refine H<|G Z K<|F Z Z K K<|O 0 Z Z Z Z K<|o_callR (h2 := [(x17, .box 41 [I e.kind, I e.t, I e.a, I e.b, I e.c, I e.f, I e.to, I e.m])]) rfl rfl rfl EntC.out K (end_spec { w with blocks := (overlayB (swapB w.blocks e.a e.c).1 (swapB (onlyB w.blocks e.f e.to).1 e.a e.b).1).1, bal := (windBal w e).set e.c.toNat ((windBal w e).getD e.c.toNat 0 + ((windBal w e).getD e.a.toNat 0 - e.m)) } _ x b1 b2 c1 c2 e.a ha0 ha7 (by simp [hv.lb, windBal]) (by simp [hv.ll])) fun v h' hr => ?_
          obtain ⟨rfl, rfl⟩ := hr
          exact o_nil<|retS0 _ (.cons _ (.refl _)) (.inl ⟨_, _, (by unfold windW; rw [if_neg (by simp_all), if_neg (by simp_all), if_neg (by simp_all), if_neg (by simp_all), if_neg (by simp_all)]), rfl, rfl⟩)
        ·
          have g25 : _ = false := g25
          refine C Z Z (fun jj => U Z Z g25 K jj)<|c_val Z Z (fun _ _ _ _ jj => U Z Z g25 K jj)<|C Z Z (fun jj => U Z Z g25 K jj)<|c_val Z Z (fun _ _ _ _ jj => U Z Z g25 K jj)<|C Z Z (fun jj => U Z Z g25 K jj)<|C Z Z (fun jj => o_pickf Z g25 rfl K jj)<|c_bar<|o_need Z Z K (fun hn43 => absurd hn43 (by simp_all)) (fun hn43 => panK (.inr ⟨(by unfold windW; rw [if_pos (by simp_all)]), rfl⟩))
      ·
        have g23 : _ = false := g23
        refine C Z Z (fun jj => U Z Z g23 K jj)<|c_val Z Z (fun _ _ _ _ jj => U Z Z g23 K jj)<|C Z Z (fun jj => U Z Z g23 K jj)<|c_val Z Z (fun _ _ _ _ jj => U Z Z g23 K jj)<|C Z Z (fun jj => U Z Z g23 K jj)<|C Z Z (fun jj => o_pickf Z g23 rfl K jj)<|C Z Z (fun jj => G Z K jj)<|C Z Z (fun jj => U Z Z Z K jj)<|c_val Z Z (fun _ _ _ _ jj => U Z Z Z K jj)<|C Z Z (fun jj => U Z Z Z K jj)<|c_val Z Z (fun _ _ _ _ jj => U Z Z Z K jj)<|C Z Z (fun jj => U Z Z Z K jj) ?_
        refine C Z Z (fun jj => o_pickf Z Z Z K jj)<|c_bar<|o_need Z Z K (fun hn43 => absurd hn43 (by simp_all)) (fun hn43 => panK (.inr ⟨(by unfold windW; rw [if_pos (by simp_all)]), rfl⟩))
    ·
      have g21 : _ = false := g21
      refine C Z Z (fun jj => U Z Z g21 K jj)<|C Z Z (fun jj => U Z Z g21 K jj)<|C Z Z (fun jj => U Z Z g21 K jj)<|C Z Z (fun jj => U Z Z g21 K jj)<|c_val Z Z (fun _ _ _ _ jj => U Z Z g21 K jj)<|C Z Z (fun jj => U Z Z g21 K jj)<|c_val Z Z (fun _ _ _ _ jj => U Z Z g21 K jj)<|C Z Z (fun jj => U Z Z g21 K jj)<|C Z Z (fun jj => o_pickf Z g21 rfl K jj)<|C Z Z (fun jj => G Z K jj)<|C Z Z (fun jj => U Z Z Z K jj)<|c_val Z Z (fun _ _ _ _ jj => U Z Z Z K jj) ?_
      refine C Z Z (fun jj => U Z Z Z K jj)<|c_val Z Z (fun _ _ _ _ jj => U Z Z Z K jj)<|C Z Z (fun jj => U Z Z Z K jj)<|C Z Z (fun jj => o_pickf Z Z Z K jj)<|C Z Z (fun jj => G Z K jj)<|C Z Z (fun jj => U Z Z Z K jj)<|c_val Z Z (fun _ _ _ _ jj => U Z Z Z K jj)<|C Z Z (fun jj => U Z Z Z K jj)<|c_val Z Z (fun _ _ _ _ jj => U Z Z Z K jj)<|C Z Z (fun jj => U Z Z Z K jj)<|C Z Z (fun jj => o_pickf Z Z Z K jj)<|c_bar ?_
      refine o_need Z Z K (fun hn43 => absurd hn43 (by simp_all)) (fun hn43 => panK (.inr ⟨(by unfold windW; rw [if_pos (by simp_all)]), rfl⟩))
  ·
    have g19 : _ = false := g19
    refine C Z Z (fun jj => U Z Z g19 K jj)<|C Z Z (fun jj => U Z Z g19 K jj)<|C Z Z (fun jj => U Z Z g19 K jj)<|C Z Z (fun jj => U Z Z g19 K jj)<|c_val Z Z (fun _ _ _ _ jj => U Z Z g19 K jj)<|C Z Z (fun jj => U Z Z g19 K jj)<|c_val Z Z (fun _ _ _ _ jj => U Z Z g19 K jj)<|C Z Z (fun jj => U Z Z g19 K jj)<|C Z Z (fun jj => o_pickf Z g19 rfl K jj)<|C Z Z (fun jj => G Z K jj)<|C Z Z (fun jj => U Z Z Z K jj)<|C Z Z (fun jj => U Z Z Z K jj) ?_
    refine C Z Z (fun jj => U Z Z Z K jj)<|C Z Z (fun jj => U Z Z Z K jj)<|c_val Z Z (fun _ _ _ _ jj => U Z Z Z K jj)<|C Z Z (fun jj => U Z Z Z K jj)<|c_val Z Z (fun _ _ _ _ jj => U Z Z Z K jj)<|C Z Z (fun jj => U Z Z Z K jj)<|C Z Z (fun jj => o_pickf Z Z Z K jj)<|C Z Z (fun jj => G Z K jj)<|C Z Z (fun jj => U Z Z Z K jj)<|c_val Z Z (fun _ _ _ _ jj => U Z Z Z K jj)<|C Z Z (fun jj => U Z Z Z K jj)<|c_val Z Z (fun _ _ _ _ jj => U Z Z Z K jj) ?_
    refine C Z Z (fun jj => U Z Z Z K jj)<|C Z Z (fun jj => o_pickf Z Z Z K jj)<|C Z Z (fun jj => G Z K jj)<|C Z Z (fun jj => U Z Z Z K jj)<|c_val Z Z (fun _ _ _ _ jj => U Z Z Z K jj)<|C Z Z (fun jj => U Z Z Z K jj)<|c_val Z Z (fun _ _ _ _ jj => U Z Z Z K jj)<|C Z Z (fun jj => U Z Z Z K jj)<|C Z Z (fun jj => o_pickf Z Z Z K jj)<|c_bar<|o_need Z Z K (fun hn43 => absurd hn43 (by simp_all)) (fun hn43 => panK (.inr ⟨(by unfold windW; rw [if_pos (by simp_all)]), rfl⟩))

end Go.Proofs.YtnoicbajhlpndaaGreat
/- The walk of package merge's upgrade. -/
namespace Go.Proofs.YtnoicbajhlpndaaGreat
open Go Go.RowKit Go.Shelf Hp
set_option maxRecDepth 10000
set_option maxHeartbeats 1000000
set_option linter.unusedVariables false
set_option linter.unusedSimpArgs false
attribute [local irreducible] WP WPs FnX IterX YdX RetP PanP Ch Back Join
def badUp (w : Wd) (e : Ev) (k : Nat) : Bool := hasC w.alive k && decide (w.lev.getD k 0 < w.lev.getD e.a.toNat 0)
def upW (w : Wd) (e : Ev) : Option Wd :=
  if (bareE e && decide (e.b = 0) && decide (e.c = 0)) = false then none else
  if (List.range 8).any (badUp w e) = true then none else
  some { w with lev := w.lev.set e.a.toNat (w.lev.getD e.a.toNat 0 + 1) }
theorem up_bad {w : Wd} {e : Ev} {k : Nat} (hk : k < 8) (h : badUp w e k = true) : (List.range 8).any (badUp w e) = true := List.any_eq_true.2 ⟨k, List.mem_range.2 hk, h⟩
theorem lev_bound {w : Wd} (hv : VParts w) (i : Nat) : 0 ≤ w.lev.getD i 0 ∧ w.lev.getD i 0 ≤ 9 := by
  by_cases h : i < 8
  · have := hv.ok i h; simp only [okAt, Bool.and_eq_true, inM, decide_eq_true_eq] at this; exact this.1.2
  · have : w.lev.getD i 0 = 0 := by have := hv.ll; simp; rw [List.getElem?_eq_none (by omega)]; rfl
    omega

structure UpI (w : Wd) (e : Ev) where
  k : Nat
  hk : k ≤ 8
  hok : ∀ j, j < k → badUp w e j = false

theorem upgrade_do (w : Wd) (f : Bool) (x b1 b2 c1 c2 : Nat) (e : Ev) (hv : VParts w) (ha0 : 0 ≤ e.a) (ha7 : e.a ≤ 7) : FnE Tryz.prog 170 [.ptr x 0, encE e] (WH w f x b1 b2 c1 c2) (DoR (upW w e) x b1 b2 c1 c2) := by
 refine fnE_intro (N := 64) Tryz.func170 rfl rfl rfl ?_
 intro X
 refine h_seq<|H<|o_box Z Z K fun x1 => o_nil<|h_seq<|H<|O 0 Z Z Z Z K<|o_call1 Z Z EntC.out K (isBare_spec _)<|G Z K<|o_guard Z Z K (fun g3 => ?_) (fun g3 => ?_)
 ·
  have g3 : _ = true := g3
  refine F Z Z K K<|W Z Z g3 K<|O 0 Z Z Z Z K<|W Z Z g3 K<|o_cmp Z Z Z K<|o_pickt Z g3 rfl K<|G Z K<|o_guard Z Z K (fun g5 => ?_) (fun g5 => ?_)
  ·
   have g5 : _ = true := g5
   refine F Z Z K K<|W Z Z g5 K<|O 0 Z Z Z Z K<|W Z Z g5 K<|o_cmp Z Z Z K<|o_pickt Z g5 rfl K<|o_need Z Z K (fun hn18 => ?_) (fun hn18 => panK (.inr ⟨(by unfold upW; rw [if_pos (by simp_all)]), rfl⟩))
   refine o_nil<|h_seq<|h_seq<|H<|G Z K<|o_nilp Z K<|F Z Z K K<|F Z Z K K<|O 1 Z Z Z Z K<|o_leno Z K<|G Z K<|o_nil ?_
   refine h_block<|h_famS (ι := UpI w e) (fun i => [(0, .ptr x 0), (3, .ptr x1 0), (23, .os b2 1 0 8 c2), (24, I (8 : Nat)), (25, I (i.k : Nat))]) (fun i => (x1, .box 41 [I e.kind, I e.t, I e.a, I e.b, I e.c, I e.f, I e.to, I e.m]) :: (x, .box 197 [I w.alive, I w.ever, V (w.blocks.map encB) f, .os b1 1 0 8 c1, .os b2 1 0 8 c2]) :: (b1, .arr 3 1 (w.bal.map encI) c1) :: (b2, .arr 3 1 (w.lev.map encI) c2) :: []) (fun i => 8 - i.k) ⟨0, by omega, by intro j hj; omega⟩ (.cons_cons _ (.cons_cons _ (.cons_cons _ (.cons_cons _ (.refl _))))) (subT.cons Z (subT.cons Z (subT.cons Z (subT.cons Z (subT.cons Z subT.nil))))) ?_
   rintro ⟨k, hk, hok⟩
   by_cases hlt : k < 8
   ·
    refine h_seq<|H<|o_cmp Z Z Z K<|o_nil<|h_seq<|h_condt Z (by simp; omega) ?_
    refine h_skip<|h_seq<|h_block<|h_seq<|H<|G Z K<|o_idxo Z Z (by (try dsimp only); omega) (by (try dsimp only); omega) K<|o_loade 3 Z Z (eltW (by rw [hv.ll]; (try dsimp only); omega)) rfl rfl K<|S Z K<|S Z K<|o_nil<|h_draw _ (List.nil_sublist _) [(0, .flo), (1, .flo), (2, .flo), (3, .flo), (4, .val), (5, .flo), (6, .flo), (7, .flo), (8, .flo), (9, .flo), (10, .flo), (11, .flo), (12, .flo), (13, .flo), (14, .val), (15, .flo), (16, .val), (17, .flo), (18, .val), (19, .flo), (20, .flo), (21, .bar)] mixed (by kernel_rfl) ?_
    refine C Z Z (fun jj => G Z K jj)<|C Z Z (fun jj => o_nilp Z K jj)<|C Z Z (fun jj => F Z Z K K jj)<|C Z Z (fun jj => F Z Z K K jj)<|c_val Z Z (fun _ _ _ _ jj => O 1 Z Z Z Z K jj)<|C Z Z (fun jj => G Z K jj) ?_
    refine C Z Z (fun jj => o_call1 Z Z EntC.out K (has_spec _ _ (by (try dsimp only); omega) (by (try dsimp only); omega)) jj)<|C Z Z (fun jj => o_not Z K jj)<|C Z Z (fun jj => G Z K jj)<|c_split (t := 38) rfl (fun g9 => ?_) (fun g9 => ?_)
    ·
     have g9 : _ = true := g9
     refine C Z Z (fun jj => U Z Z g9 K jj)<|C Z Z (fun jj => U Z Z g9 K jj)<|C Z Z (fun jj => U Z Z g9 K jj)<|C Z Z (fun jj => U Z Z g9 K jj)<|C Z Z (fun jj => U Z Z g9 K jj)<|c_val Z Z (fun _ _ _ _ jj => U Z Z g9 K jj)<|C Z Z (fun jj => U Z Z g9 K jj)<|c_val Z Z (fun _ _ _ _ jj => U Z Z g9 K jj)<|C Z Z (fun jj => U Z Z g9 K jj)<|c_val Z Z (fun _ _ _ _ jj => U Z Z g9 K jj)<|C Z Z (fun jj => U Z Z g9 K jj)<|C Z Z (fun jj => o_pickt Z g9 rfl K jj) ?_
     refine c_bar<|o_need Z Z K (fun hn51 => ?_) (fun hn51 => absurd hn51 (by simp_all))
     refine o_nil<|H<|o_add Z Z (by unfold in64; (try dsimp only); omega) K ?_
     refine G Z K<|o_nil ?_
     have hnb : badUp w e k = false := by simp only [badUp, Bool.and_eq_false_iff, decide_eq_false_iff_not]; simp_all <;> omega
     refine back rfl ⟨k + 1, hlt, (by intro j hj; rcases Nat.lt_succ_iff_lt_or_eq.1 hj with h1 | h1; exact hok j h1; subst h1; exact hnb)⟩ (by dsimp only; omega) (.cons_cons _ (.cons_cons _ (.cons_cons _ (.cons_cons _ (.refl _))))) (subT.cons Z (subT.cons Z (subT.cons Z (subT.cons Z (subT.cons Z subT.nil)))))
    ·
     have g9 : _ = false := g9
     refine C Z Z (fun jj => W Z Z g9 K (G Z K jj))<|C Z Z (fun jj => W Z Z g9 K (G Z K jj))<|C Z Z (fun jj => W Z Z g9 K (o_nilp Z K jj))<|C Z Z (fun jj => W Z Z g9 K (F Z Z K K jj))<|C Z Z (fun jj => W Z Z g9 K (F Z Z K K jj))<|c_val Z Z (fun _ _ _ _ jj => W Z Z g9 K (O 1 Z Z Z Z K jj))<|C Z Z (fun jj => W Z Z g9 K (F Z Z K K jj))<|c_val Z Z (fun _ _ _ _ jj => W Z Z g9 K (O 0 Z Z Z Z K jj))<|C Z Z (fun jj => W Z Z g9 K (o_idxo Z Z (by (try dsimp only); omega) (by (try dsimp only); omega) K jj))<|c_val Z Z (fun _ _ _ _ jj => W Z Z g9 K (o_loade 3 Z Z (eltW (by rw [hv.ll]; (try dsimp only); omega)) rfl rfl K jj))<|C Z Z (fun jj => W Z Z g9 K (o_cmp Z Z Z K jj))<|C Z Z (fun jj => o_pickf Z g9 rfl K jj) ?_
     refine c_bar<|o_need Z Z K (fun hn51 => ?_) (fun hn51 => panK (.inr ⟨(by unfold upW; rw [if_neg (by simp_all), if_pos (up_bad hlt (by simp only [badUp, Bool.and_eq_true, decide_eq_true_eq]; simp_all))]), rfl⟩))
     refine o_nil<|H<|o_add Z Z (by unfold in64; (try dsimp only); omega) K ?_
     refine G Z K<|o_nil ?_
     have hnb : badUp w e k = false := by simp only [badUp, Bool.and_eq_false_iff, decide_eq_false_iff_not]; simp_all <;> omega
     refine back rfl ⟨k + 1, hlt, (by intro j hj; rcases Nat.lt_succ_iff_lt_or_eq.1 hj with h1 | h1; exact hok j h1; subst h1; exact hnb)⟩ (by dsimp only; omega) (.cons_cons _ (.cons_cons _ (.cons_cons _ (.cons_cons _ (.refl _))))) (subT.cons Z (subT.cons Z (subT.cons Z (subT.cons Z (subT.cons Z subT.nil)))))
   ·
    obtain rfl : k = 8 := by omega
    refine h_seq<|H<|o_cmp Z Z Z K<|o_nil<|h_seq<|h_condf Z (by simp) ?_
    refine h_exit<|h_draw _ (.cons_cons _ (.cons_cons _ (.cons _ (.cons _ (List.nil_sublist _))))) [(0, .flo), (1, .flo), (2, .flo), (3, .flo), (4, .box), (5, .flo), (6, .box), (7, .flo), (8, .val), (9, .flo), (10, .flo), (11, .sto)] mixed (by kernel_rfl)<|C Z Z (fun jj => G Z K jj)<|C Z Z (fun jj => o_nilp Z K jj)<|C Z Z (fun jj => F Z Z K K jj)<|C Z Z (fun jj => F Z Z K K jj)<|c_box Z Z (fun _ _ _ _ jj => O 1 Z Z Z Z K jj)<|C Z Z (fun jj => F Z Z K K jj)<|c_box Z Z (fun _ _ _ _ jj => O 0 Z Z Z Z K jj)<|C Z Z (fun jj => o_idxo Z Z (by (try dsimp only); omega) (by (try dsimp only); omega) K jj)<|c_val Z Z (fun _ _ _ _ jj => o_loade 3 Z Z (eltW (by rw [hv.ll]; (try dsimp only); omega)) rfl rfl K jj)<|C Z Z (fun jj => o_add Z Z (by have := lev_bound hv e.a.toNat; unfold in64; (try dsimp only); omega) K jj) ?_
    refine C Z Z (fun jj => o_idxo Z Z (by (try dsimp only); omega) (by (try dsimp only); omega) K jj) ?_
    refine c_sto (.cons_cons _ (.cons_cons _ (.cons _ (.cons _ (List.nil_sublist _))))) rfl rfl (fun _ _ _ _ jj => o_storee 3 Z Z (eltW (by rw [hv.ll]; (try dsimp only); omega)) rfl rfl rfl rfl (by simp [encI]) jj) ?_
    refine c_nil ?_
    have hnn : (List.range 8).any (badUp w e) = false := by rw [List.any_eq_false]; intro j hj; rw [hok j (List.mem_range.1 hj)]; simp
    exact retS0 _ (.cons _ (.refl _)) (.inl ⟨_, f, (by unfold upW; rw [if_neg (by simp_all), if_neg (by rw [hnn]; simp)]), rfl, by simp only [WH, Nat.zero_add, setEnc] <;> rfl⟩)
  ·
   have g5 : _ = false := g5
   refine U Z Z g5 K<|U Z Z g5 K<|o_pickf Z g5 rfl K<|o_need Z Z K (fun hn18 => absurd hn18 (by simp_all)) (fun hn18 => panK (.inr ⟨(by unfold upW; rw [if_pos (by simp_all)]), rfl⟩))
 ·
  have g3 : _ = false := g3
  refine U Z Z g3 K<|U Z Z g3 K<|o_pickf Z g3 rfl K<|G Z K<|U Z Z Z K<|U Z Z Z K<|U Z Z Z K<|o_pickf Z Z Z K<|o_need Z Z K (fun hn18 => absurd hn18 (by simp_all)) (fun hn18 => panK (.inr ⟨(by unfold upW; rw [if_pos (by simp_all)]), rfl⟩))

end Go.Proofs.YtnoicbajhlpndaaGreat
/- The walks of package merge: kinds, and what step has deferred. -/
namespace Go.Proofs.YtnoicbajhlpndaaGreat
open Go Go.RowKit Go.Shelf Hp
set_option maxRecDepth 10000
set_option maxHeartbeats 1000000
set_option linter.unusedVariables false
set_option linter.unusedSimpArgs false
attribute [local irreducible] WP WPs FnX IterX YdX RetP PanP Ch Back Join
abbrev fv (f : FuncId) : Value := .func (.func f) #[] #[]
def kindsEs : Array MapEntry := (((#[].push { key := .int .i64 1, val := fv 167, born := 0 }).push { key := .int .i64 2, val := fv 168, born := 0 + 1 }).push { key := .int .i64 3, val := fv 169, born := 0 + 1 + 1 }).push { key := .int .i64 4, val := fv 170, born := 0 + 1 + 1 + 1 }
theorem find1 : Instr.findNow (.int .i64) (.int .i64 1) kindsEs.toList 0 = some (some (0, fv 167)) := rfl
theorem find2 : Instr.findNow (.int .i64) (.int .i64 2) kindsEs.toList 0 = some (some (1, fv 168)) := rfl
theorem find3 : Instr.findNow (.int .i64) (.int .i64 3) kindsEs.toList 0 = some (some (2, fv 169)) := rfl
theorem find4 : Instr.findNow (.int .i64) (.int .i64 4) kindsEs.toList 0 = some (some (3, fv 170)) := rfl
theorem find0 {k : Int} (h1 : k ≠ 1) (h2 : k ≠ 2) (h3 : k ≠ 3) (h4 : k ≠ 4) : Instr.findNow (.int .i64) (.int .i64 k) kindsEs.toList 0 = some none := by
  have e1 : (k == 1) = false := by simpa using h1
  have e2 : (k == 2) = false := by simpa using h2
  have e3 : (k == 3) = false := by simpa using h3
  have e4 : (k == 4) = false := by simpa using h4
  simp [kindsEs, Instr.findNow, Instr.sameNow, e1, e2, e3, e4]
theorem kind5 (k : Int) : k = 1 ∨ k = 2 ∨ k = 3 ∨ k = 4 ∨ (k ≠ 1 ∧ k ≠ 2 ∧ k ≠ 3 ∧ k ≠ 4) := by omega

theorem kinds_spec : Fc Tryz.prog 118 [] [] (fun r h' => ∃ b, r = M b ∧ h' = [(b, .obj (.map kindsEs (0 + 1 + 1 + 1 + 1)))]) := by
 refine fnE_intro (N := 3) Tryz.func118 rfl rfl rfl ?_
 intro X
 refine h_seq<|H<|S Z K<|o_nil<|h_seq<|H<|o_makeMap K fun x1 => o_insert 0 Z Z Z Z (only_fn _) rfl<|o_insert 0 Z Z Z Z (only_fn _) rfl<|o_insert 0 Z Z Z Z (only_fn _) rfl<|o_insert 0 Z Z Z Z (only_fn _) rfl<|G Z K ?_
 exact S Z K<|o_nil<|h_ret<|retS1 [_] rfl (.refl _) ⟨_, rfl, _, rfl, rfl⟩

theorem step1_ret (x4 x5 : Nat) (er : Int) (c1 c2 c3 c4 c5 : AV) : DefE Tryz.prog 117 [.ptr x4 0, .ptr x5 0] .returning [(x5, .box 44 [I er]), (x4, .box 32 [c1, c2, c3, c4, c5])] (fun h' => h' = [(x5, .box 44 [I er]), (x4, .box 32 [c1, c2, c3, c4, c5])]) := by
 refine defE_rec (N := 16) (v := .nilIface) (u' := .returning) Tryz.func117 rfl rfl rfl rfl K K (.inl ⟨rfl, rfl, rfl⟩) ?_
 intro X
 refine h_seq<|H<|G Z K<|o_assertn Z K<|G Z K<|o_extract Z Z K<|o_extract Z Z K<|o_alloc K fun x2 => ?_
 refine o_store 0 Z Z Z Z Z Z<|S Z K<|o_nil<|h_seq<|H<|G Z K<|o_nil<|h_condf Z Z<|h_seq<|H<|G Z K<|o_neqi0 Z K ?_
 refine o_nil<|h_condf Z Z<|h_skip ?_
 exact ⟨rfl, _, .cons _ (.refl _), rfl⟩
theorem step1_pan (x4 x5 : Nat) (er : Int) (c1 c2 c3 c4 c5 : AV) : DefE Tryz.prog 117 [.ptr x4 0, .ptr x5 0] (.panicking impC) [(x5, .box 44 [I er]), (x4, .box 32 [c1, c2, c3, c4, c5])] (fun h' => h' = [(x5, .box 44 [I 420]), (x4, .box 32 [I 0, I 0, V [] true, V [] true, V [] true])]) := by
 refine defE_rec (N := 16) (v := impV) (u' := .panicking [{ v := impV, recovered := true }]) Tryz.func117 rfl rfl rfl rfl K K (.inr ⟨rfl, rfl⟩) ?_
 intro X
 refine h_seq<|H<|G Z K<|o_asserty Z K<|G Z K<|o_extract Z Z K<|o_extract Z Z K<|o_alloc K fun x3 => ?_
 refine o_store 0 Z Z Z Z Z Z<|S Z K<|o_nil<|h_seq<|H<|G Z K<|o_nil<|h_condt Z Z<|H<|o_build Z Z K ?_
 refine o_store 2 Z Z Z Z Z Z ?_
 refine o_store 1 Z Z Z Z Z Z<|o_nil ?_
 exact ⟨rfl, _, .cons _ (.refl _), rfl⟩
end Go.Proofs.YtnoicbajhlpndaaGreat
/- The walk of merge.step and merge.Step. -/
namespace Go.Proofs.YtnoicbajhlpndaaGreat
open Go Go.RowKit Go.Shelf Hp
set_option maxRecDepth 10000
set_option maxHeartbeats 1000000
set_option linter.unusedVariables false
set_option linter.unusedSimpArgs false
attribute [local irreducible] WP WPs FnX IterX YdX RetP PanP Ch Back Join
def okE (w : Wd) (e : Ev) : Bool := decide (1 ≤ e.kind ∧ e.kind ≤ 4) && inM e.t 0 10000000 && carOk e.a && carOk e.b && carOk e.c && hasC w.alive e.a
def doW (w : Wd) (e : Ev) : Option Wd := if e.kind = 1 then mergeW w e else if e.kind = 2 then splitW w e else if e.kind = 3 then windW w e else upW w e
/-- The world after an event, where it is possible. -/
def stepW (w : Wd) (e : Ev) : Option Wd := if okE w e = false then none else match doW w e with
  | none => none
  | some w' => if validW w' then some w' else none
theorem stepW_bad {w : Wd} {e : Ev} (h : okE w e = false) : stepW w e = none := by simp [stepW, h]
theorem stepW_no {w : Wd} {e : Ev} (h : okE w e = true) (hd : doW w e = none) : stepW w e = none := by simp [stepW, h, hd]
theorem stepW_inv {w w' : Wd} {e : Ev} (h : okE w e = true) (hd : doW w e = some w') (hv : validW w' = false) : stepW w e = none := by simp [stepW, h, hd, hv]
theorem stepW_ok {w w' : Wd} {e : Ev} (h : okE w e = true) (hd : doW w e = some w') (hv : validW w' = true) : stepW w e = some w' := by simp [stepW, h, hd, hv]
theorem doW1 {w : Wd} {e : Ev} (h : e.kind = 1) : doW w e = mergeW w e := by simp [doW, h]
theorem doW2 {w : Wd} {e : Ev} (h : e.kind = 2) : doW w e = splitW w e := by simp [doW, h]
theorem doW3 {w : Wd} {e : Ev} (h : e.kind = 3) : doW w e = windW w e := by simp [doW, h]
theorem doW4 {w : Wd} {e : Ev} (h : e.kind = 4) : doW w e = upW w e := by simp [doW, h]
theorem carR {n : Int} (h : carOk n = true) : 0 ≤ n ∧ n ≤ 7 := by simpa [carOk] using h
theorem doW_len {w w' : Wd} {e : Ev} (hv : VParts w) (h : doW w e = some w') : w'.bal.length = 8 ∧ w'.lev.length = 8 := by
  have h1 := hv.lb
  have h2 := hv.ll
  unfold doW mergeW splitW windW upW at h
  repeat' (first | (split at h) | (cases h; done))
  all_goals (cases h; simp [endW, windBal, h1, h2])
section
variable {X : Ctx} {N : Nat} {r : Option Nat} {Q : Post} {ds : List Deferred} {a : Tmps}
/-- A world that is being changed is changed no longer: plain data. -/
theorem h_frzW {c : Code} (w : Wd) (f : Bool) (x b1 b2 c1 c2 : Nat) (hb : w.bal.length = 8) (hl : w.lev.length = 8) (h1 : 8 ≤ c1) (h2 : 8 ≤ c2) {rest : AHeap}
    (k : WP Tryz.prog X N r c Q ds a ((x, .box 197 (cellsW w f false false)) :: rest)) : WP Tryz.prog X N r c Q ds a (WH w f x b1 b2 c1 c2 ++ rest) := by
  have hdom : ∀ hn : (dom (WH w f x b1 b2 c1 c2 ++ rest)).Nodup, b1 ∉ dom ((x, OB.box 197 (cellsW w f false false)) :: rest) ∧ b2 ∉ dom ((x, OB.box 197 (cellsW w f false false)) :: rest) := by
    intro hn
    simp only [dom, WH, List.cons_append, List.map_cons, List.nil_append, List.nodup_cons, List.mem_cons, not_or] at hn ⊢
    exact ⟨⟨Ne.symm hn.1.1, hn.2.1.2⟩, ⟨Ne.symm hn.1.2.1, hn.2.2.1⟩⟩
  refine h_frzN ((x, .box 197 (cellsW w f false false)) :: rest) (fun hn => ?_) (fun hn b o' ho => ?_) (fun hn t v hv => ⟨v, hv, .refl _⟩) k
  · simp only [dom, List.cons_append, List.map_cons, List.nil_append] at hn ⊢
    have := List.nodup_cons.1 hn
    refine List.nodup_cons.2 ⟨fun hm => this.1 (by simp [hm]), (List.nodup_cons.1 (List.nodup_cons.1 this.2).2).2⟩
  · obtain ⟨hd1, hd2⟩ := hdom hn
    rcases List.mem_cons.1 ho with he | hm
    · cases he
      refine ⟨_, List.mem_cons_self, .box _ _ _ rfl fun i c d hc hd => ?_⟩
      have f1 : FrzA (WH w f x b1 b2 c1 c2 ++ rest) ((x, .box 197 (cellsW w f false false)) :: rest) (.os b1 1 0 8 c1) (V (w.bal.map encI) false) := by
        have := FrzA.os (h := WH w f x b1 b2 c1 c2 ++ rest) (h' := (x, .box 197 (cellsW w f false false)) :: rest) b1 1 0 8 c1 3 (w.bal.map encI) c1 false (by simp) hd1 (by simp [hb]) h1 (by simp)
        rwa [List.drop_zero, List.take_of_length_le (by simp [hb])] at this
      have f2 : FrzA (WH w f x b1 b2 c1 c2 ++ rest) ((x, .box 197 (cellsW w f false false)) :: rest) (.os b2 1 0 8 c2) (V (w.lev.map encI) false) := by
        have := FrzA.os (h := WH w f x b1 b2 c1 c2 ++ rest) (h' := (x, .box 197 (cellsW w f false false)) :: rest) b2 1 0 8 c2 3 (w.lev.map encI) c2 false (by simp) hd2 (by simp [hl]) h2 (by simp)
        rwa [List.drop_zero, List.take_of_length_le (by simp [hl])] at this
      match i with
      | 0 => cases hc; cases hd; exact .refl _
      | 1 => cases hc; cases hd; exact .refl _
      | 2 => cases hc; cases hd; exact .refl _
      | 3 => cases hc; cases hd; exact f1
      | 4 => cases hc; cases hd; exact f2
      | i + 5 => cases hc
    · exact ⟨o', by simp [hm], .refl _⟩
end

abbrev W0 : AV := .agg [I 0, I 0, V [] true, V [] true, V [] true]
/-- What a step gives. -/
abbrev StepR (o : Option Wd) : AEnd → AHeap → Prop := fun E h' => h' = [] ∧ ((∃ w' f, o = some w' ∧ E = .ret (.tup [encW w' f false false, I 0])) ∨ (o = none ∧ E = .ret (.tup [W0, I 420])))

theorem step_spec (w : Wd) (e : Ev) (f1 f2 f3 : Bool) (hv : VParts w) (hbl : w.blocks.length ≤ 1000000000) : FnE Tryz.prog 62 [encW w f1 f2 f3, encE e] [] (StepR (stepW w e)) := by
  intro X; refine fnX_introD (N := 61) Tryz.func62 rfl rfl rfl ?_
  skip
  refine h_seq<|H<|o_box Z Z K fun x1 => o_box Z Z K fun x2 => o_alloc K fun x3 => o_alloc K fun x4 => o_nil<|h_seq<|H<|o_makeFunc Z K<|o_defer2 Z<|o_nil ?_
  rcases kind5 e.kind with hk | hk | hk | hk | ⟨hk1, hk2, hk3, hk4⟩
  ·
    refine h_seq<|h_draw _ (List.nil_sublist _) [(1, .flo), (2, .val), (0, .new), (3, .sto), (4, .flo)] mixed (by kernel_rfl)<|C Z Z (fun jj => F Z Z K K jj)<|c_val Z Z (fun _ _ _ _ jj => O 2 Z Z Z Z K jj)<|c_newG (ι := Nat) (fun m => M m) (fun m => [(m, .obj (.map kindsEs (0 + 1 + 1 + 1 + 1)))]) rfl rfl (fun X r Q ds k => o_callA Z Z EntC.out K kinds_spec fun v h' hr => by obtain ⟨m, rfl, rfl⟩ := hr; exact k m) fun m => ?_
    refine c_stov (List.nil_sublist _) rfl rfl (fun _ _ _ _ jj => o_lookup 0 Z Z Z (by rw [hk]; exact find1) (rel_fn0 _) K jj)<|C Z Z (fun jj => S Z K jj)<|c_nil<|h_seq<|H<|G Z K<|o_neqf Z K<|G Z K<|W Z Z Z K<|F Z Z K K<|W Z Z Z K<|O 3 Z Z Z Z K ?_
    refine W Z Z Z K<|o_call1 Z Z EntC.out K (isIn_spec _ _ _)<|o_pickt Z Z Z K<|G Z K<|o_guard Z Z K (fun g6 => ?_) (fun g6 => ?_)
    ·
      have g6 : _ = true := g6
      refine F Z Z K K<|W Z Z g6 K<|O 3 Z Z Z Z K<|W Z Z g6 K<|o_call1 Z Z EntC.out K (misCarrier_spec _)<|o_pickt Z g6 rfl K<|G Z K<|o_guard Z Z K (fun g8 => ?_) (fun g8 => ?_)
      ·
        have g8 : _ = true := g8
        refine F Z Z K K<|W Z Z g8 K<|O 3 Z Z Z Z K<|W Z Z g8 K<|o_call1 Z Z EntC.out K (misCarrier_spec _)<|o_pickt Z g8 rfl K<|G Z K<|o_guard Z Z K (fun g10 => ?_) (fun g10 => ?_)
        ·
          have g10 : _ = true := g10
          refine F Z Z K K<|W Z Z g10 K<|O 3 Z Z Z Z K<|W Z Z g10 K<|o_call1 Z Z EntC.out K (misCarrier_spec _)<|o_pickt Z g10 rfl K<|G Z K<|o_guard Z Z K (fun g12 => ?_) (fun g12 => ?_)
          ·
            have g12 : _ = true := g12
            refine F Z Z K K<|W Z Z g12 K<|O 4 Z Z Z Z K<|W Z Z g12 K<|F Z Z K K<|W Z Z g12 K<|O 3 Z Z Z Z K<|W Z Z g12 K ?_
            refine o_call1 Z Z EntC.out K (has_spec _ _ (by have := carR (n := e.a) (by simp_all); omega) (by have := carR (n := e.a) (by simp_all); omega)) ?_
            refine o_pickt Z g12 rfl K<|o_need Z Z K (fun hn42 => ?_) (fun hn42 => ?_)
            rotate_left
            ·
              exact after_one EntC.out (by simp) (perm_mid (p := [(m, .obj (.map kindsEs (0 + 1 + 1 + 1 + 1)))]) (u := [(x4, .box 44 [I 0]), (x3, .box 32 [I 0, I 0, V [] true, V [] true, V [] true])]) (v := [(x2, .box 41 [I e.kind, I e.t, I e.a, I e.b, I e.c, I e.f, I e.to, I e.m]), (x1, .box 32 (cellsW w f1 f2 f3))])) (step1_pan _ _ _ _ _ _ _ _) (fun h1' e' => by subst e'; exact ⟨_, [], .cons (resC 1 rfl rfl rfl) (.cons (resC 0 rfl rfl rfl) .nil), List.nil_sublist _, rfl, .inr ⟨stepW_bad (by simp only [okE]; simp_all), rfl⟩⟩)
            refine o_nil<|h_seq<|H<|O 4 Z Z Z Z K ?_
            have hok : okE w e = true := by simp only [okE]; simp_all
            have hca : carOk e.a = true := by simp_all
            have hcb : carOk e.b = true := by simp_all
            have hcc : carOk e.c = true := by simp_all
            refine o_callN Z Z EntC.out K (copied_spec w f1 f2 f3 hbl hv.lb hv.ll (by intro h0; have := hv.lb; simp [h0] at this) (by intro h0; have := hv.ll; simp [h0] at this)) fun v h' hr => ?_
            obtain ⟨f, b1, b2, c1, c2, hc1, hc2, rfl, rfl⟩ := hr
            refine o_build Z Z K<|o_box Z Z K fun x14 => S Z K<|o_nil<|h_seq<|H<|G Z K<|G Z K<|O 6 Z Z Z Z K<|o_callFE (h2 := [(m, .obj (.map kindsEs (0 + 1 + 1 + 1 + 1))), (x4, .box 44 [I 0]), (x3, .box 32 [I 0, I 0, V [] true, V [] true, V [] true]), (x2, .box 41 [I e.kind, I e.t, I e.a, I e.b, I e.c, I e.f, I e.to, I e.m]), (x1, .box 32 (cellsW w f1 f2 f3))]) rfl rfl rfl EntC.out K (merge_do w f x14 b1 b2 c1 c2 e hv (carR hca).1 (carR hca).2 (carR hcb).1 (carR hcb).2 (carR hcc).1 (carR hcc).2) (fun v h' hr => ?_) (fun c h' hr => ?_)
            rotate_left
            ·
              obtain ⟨_, _, _, h2, _⟩ | ⟨hd, h2⟩ := hr
              · cases h2
              cases h2
              rw [← doW1 hk] at hd
              rw [show h' ++ [(m, .obj (.map kindsEs (0 + 1 + 1 + 1 + 1))), (x4, .box 44 [I 0]), (x3, .box 32 [I 0, I 0, V [] true, V [] true, V [] true]), (x2, .box 41 [I e.kind, I e.t, I e.a, I e.b, I e.c, I e.f, I e.to, I e.m]), (x1, .box 32 (cellsW w f1 f2 f3))] = (h' ++ [(m, .obj (.map kindsEs (0 + 1 + 1 + 1 + 1)))]) ++ [(x4, .box 44 [I 0]), (x3, .box 32 [I 0, I 0, V [] true, V [] true, V [] true]), (x2, .box 41 [I e.kind, I e.t, I e.a, I e.b, I e.c, I e.f, I e.to, I e.m]), (x1, .box 32 (cellsW w f1 f2 f3))] from by simp]
              exact after_one EntC.out (by simp) (perm_mid (p := h' ++ [(m, .obj (.map kindsEs (0 + 1 + 1 + 1 + 1)))]) (u := [(x4, .box 44 [I 0]), (x3, .box 32 [I 0, I 0, V [] true, V [] true, V [] true])]) (v := [(x2, .box 41 [I e.kind, I e.t, I e.a, I e.b, I e.c, I e.f, I e.to, I e.m]), (x1, .box 32 (cellsW w f1 f2 f3))])) (step1_pan _ _ _ _ _ _ _ _) (fun h1' e' => by subst e'; exact ⟨_, [], .cons (resC 1 rfl rfl rfl) (.cons (resC 0 rfl rfl rfl) .nil), List.nil_sublist _, rfl, .inr ⟨stepW_no hok hd, rfl⟩⟩)
            obtain ⟨w', f', hd, h2, rfl⟩ | ⟨_, h2⟩ := hr
            rotate_left
            · cases h2
            cases h2
            rw [← doW1 hk] at hd
            have hlen := doW_len hv hd
            refine o_nil<|h_frzW w' f' x14 b1 b2 c1 c2 hlen.1 hlen.2 hc1 hc2<|h_seq<|H<|G Z K<|o_nilp Z K<|F Z Z K K<|O 0 Z Z Z Z K<|o_call1 Z Z EntC.out K (mvalid_spec w' f' false false)<|o_need Z Z K (fun hn56 => ?_) (fun hn56 => ?_)
            rotate_left
            ·
              exact after_one EntC.out (by simp) (perm_mid (p := [(x14, .box 197 (cellsW w' f' false false)), (m, .obj (.map kindsEs (0 + 1 + 1 + 1 + 1)))]) (u := [(x4, .box 44 [I 0]), (x3, .box 32 [I 0, I 0, V [] true, V [] true, V [] true])]) (v := [(x2, .box 41 [I e.kind, I e.t, I e.a, I e.b, I e.c, I e.f, I e.to, I e.m]), (x1, .box 32 (cellsW w f1 f2 f3))])) (step1_pan _ _ _ _ _ _ _ _) (fun h1' e' => by subst e'; exact ⟨_, [], .cons (resC 1 rfl rfl rfl) (.cons (resC 0 rfl rfl rfl) .nil), List.nil_sublist _, rfl, .inr ⟨stepW_inv hok hd hn56, rfl⟩⟩)
            refine o_nil<|h_seq<|H<|G Z K<|o_nilp Z K<|F Z Z K K<|O 0 Z Z Z Z K ?_
            refine o_store 3 Z Z Z Z Z Z ?_
            exact o_store 2 Z Z Z Z Z Z<|o_nil<|h_ret<|after_one EntC.out (by simp) (perm_mid (p := [(x14, .box 197 (cellsW w' f' false false)), (m, .obj (.map kindsEs (0 + 1 + 1 + 1 + 1)))]) (u := [(x4, .box 44 [I 0]), (x3, .box 32 (cellsW w' f' false false))]) (v := [(x2, .box 41 [I e.kind, I e.t, I e.a, I e.b, I e.c, I e.f, I e.to, I e.m]), (x1, .box 32 (cellsW w f1 f2 f3))])) (step1_ret _ _ _ _ _ _ _ _) (fun h1' e' => by subst e'; exact ⟨_, [], .cons (resC 1 rfl rfl rfl) (.cons (resC 0 rfl rfl rfl) .nil), List.nil_sublist _, rfl, .inl ⟨w', f', stepW_ok hok hd hn56, rfl⟩⟩)
          ·
            have g12 : _ = false := g12
            refine U Z Z g12 K<|U Z Z g12 K<|U Z Z g12 K<|U Z Z g12 K<|o_pickf Z g12 rfl K<|o_need Z Z K (fun hn42 => absurd hn42 (by simp_all)) (fun hn42 => ?_)
            exact after_one EntC.out (by simp) (perm_mid (p := [(m, .obj (.map kindsEs (0 + 1 + 1 + 1 + 1)))]) (u := [(x4, .box 44 [I 0]), (x3, .box 32 [I 0, I 0, V [] true, V [] true, V [] true])]) (v := [(x2, .box 41 [I e.kind, I e.t, I e.a, I e.b, I e.c, I e.f, I e.to, I e.m]), (x1, .box 32 (cellsW w f1 f2 f3))])) (step1_pan _ _ _ _ _ _ _ _) (fun h1' e' => by subst e'; exact ⟨_, [], .cons (resC 1 rfl rfl rfl) (.cons (resC 0 rfl rfl rfl) .nil), List.nil_sublist _, rfl, .inr ⟨stepW_bad (by simp only [okE]; simp_all), rfl⟩⟩)
        ·
          have g10 : _ = false := g10
          refine U Z Z g10 K<|U Z Z g10 K<|o_pickf Z g10 rfl K<|G Z K<|U Z Z Z K<|U Z Z Z K<|U Z Z Z K<|U Z Z Z K<|U Z Z Z K<|o_pickf Z Z Z K<|o_need Z Z K (fun hn42 => absurd hn42 (by simp_all)) (fun hn42 => ?_)
          exact after_one EntC.out (by simp) (perm_mid (p := [(m, .obj (.map kindsEs (0 + 1 + 1 + 1 + 1)))]) (u := [(x4, .box 44 [I 0]), (x3, .box 32 [I 0, I 0, V [] true, V [] true, V [] true])]) (v := [(x2, .box 41 [I e.kind, I e.t, I e.a, I e.b, I e.c, I e.f, I e.to, I e.m]), (x1, .box 32 (cellsW w f1 f2 f3))])) (step1_pan _ _ _ _ _ _ _ _) (fun h1' e' => by subst e'; exact ⟨_, [], .cons (resC 1 rfl rfl rfl) (.cons (resC 0 rfl rfl rfl) .nil), List.nil_sublist _, rfl, .inr ⟨stepW_bad (by simp only [okE]; simp_all), rfl⟩⟩)
      ·
        have g8 : _ = false := g8
        refine U Z Z g8 K<|U Z Z g8 K<|o_pickf Z g8 rfl K<|G Z K<|U Z Z Z K<|U Z Z Z K<|U Z Z Z K<|o_pickf Z Z Z K<|G Z K<|U Z Z Z K<|U Z Z Z K<|U Z Z Z K ?_
        refine U Z Z Z K<|U Z Z Z K<|o_pickf Z Z Z K<|o_need Z Z K (fun hn42 => absurd hn42 (by simp_all)) (fun hn42 => ?_)
        exact after_one EntC.out (by simp) (perm_mid (p := [(m, .obj (.map kindsEs (0 + 1 + 1 + 1 + 1)))]) (u := [(x4, .box 44 [I 0]), (x3, .box 32 [I 0, I 0, V [] true, V [] true, V [] true])]) (v := [(x2, .box 41 [I e.kind, I e.t, I e.a, I e.b, I e.c, I e.f, I e.to, I e.m]), (x1, .box 32 (cellsW w f1 f2 f3))])) (step1_pan _ _ _ _ _ _ _ _) (fun h1' e' => by subst e'; exact ⟨_, [], .cons (resC 1 rfl rfl rfl) (.cons (resC 0 rfl rfl rfl) .nil), List.nil_sublist _, rfl, .inr ⟨stepW_bad (by simp only [okE]; simp_all), rfl⟩⟩)
    ·
      have g6 : _ = false := g6
      refine U Z Z g6 K<|U Z Z g6 K<|o_pickf Z g6 rfl K<|G Z K<|U Z Z Z K<|U Z Z Z K<|U Z Z Z K<|o_pickf Z Z Z K<|G Z K<|U Z Z Z K<|U Z Z Z K<|U Z Z Z K ?_
      refine o_pickf Z Z Z K<|G Z K<|U Z Z Z K<|U Z Z Z K<|U Z Z Z K<|U Z Z Z K<|U Z Z Z K<|o_pickf Z Z Z K<|o_need Z Z K (fun hn42 => absurd hn42 (by simp_all)) (fun hn42 => ?_)
      exact after_one EntC.out (by simp) (perm_mid (p := [(m, .obj (.map kindsEs (0 + 1 + 1 + 1 + 1)))]) (u := [(x4, .box 44 [I 0]), (x3, .box 32 [I 0, I 0, V [] true, V [] true, V [] true])]) (v := [(x2, .box 41 [I e.kind, I e.t, I e.a, I e.b, I e.c, I e.f, I e.to, I e.m]), (x1, .box 32 (cellsW w f1 f2 f3))])) (step1_pan _ _ _ _ _ _ _ _) (fun h1' e' => by subst e'; exact ⟨_, [], .cons (resC 1 rfl rfl rfl) (.cons (resC 0 rfl rfl rfl) .nil), List.nil_sublist _, rfl, .inr ⟨stepW_bad (by simp only [okE]; simp_all), rfl⟩⟩)
  ·
    refine h_seq<|h_draw _ (List.nil_sublist _) [(1, .flo), (2, .val), (0, .new), (3, .sto), (4, .flo)] mixed (by kernel_rfl)<|C Z Z (fun jj => F Z Z K K jj)<|c_val Z Z (fun _ _ _ _ jj => O 2 Z Z Z Z K jj)<|c_newG (ι := Nat) (fun m => M m) (fun m => [(m, .obj (.map kindsEs (0 + 1 + 1 + 1 + 1)))]) rfl rfl (fun X r Q ds k => o_callA Z Z EntC.out K kinds_spec fun v h' hr => by obtain ⟨m, rfl, rfl⟩ := hr; exact k m) fun m => ?_
    refine c_stov (List.nil_sublist _) rfl rfl (fun _ _ _ _ jj => o_lookup 0 Z Z Z (by rw [hk]; exact find2) (rel_fn0 _) K jj)<|C Z Z (fun jj => S Z K jj)<|c_nil<|h_seq<|H<|G Z K<|o_neqf Z K<|G Z K<|W Z Z Z K<|F Z Z K K<|W Z Z Z K<|O 3 Z Z Z Z K ?_
    refine W Z Z Z K<|o_call1 Z Z EntC.out K (isIn_spec _ _ _)<|o_pickt Z Z Z K<|G Z K<|o_guard Z Z K (fun g17 => ?_) (fun g17 => ?_)
    ·
      have g17 : _ = true := g17
      refine F Z Z K K<|W Z Z g17 K<|O 3 Z Z Z Z K<|W Z Z g17 K<|o_call1 Z Z EntC.out K (misCarrier_spec _)<|o_pickt Z g17 rfl K<|G Z K<|o_guard Z Z K (fun g19 => ?_) (fun g19 => ?_)
      ·
        have g19 : _ = true := g19
        refine F Z Z K K<|W Z Z g19 K<|O 3 Z Z Z Z K<|W Z Z g19 K<|o_call1 Z Z EntC.out K (misCarrier_spec _)<|o_pickt Z g19 rfl K<|G Z K<|o_guard Z Z K (fun g21 => ?_) (fun g21 => ?_)
        ·
          have g21 : _ = true := g21
          refine F Z Z K K<|W Z Z g21 K<|O 3 Z Z Z Z K<|W Z Z g21 K<|o_call1 Z Z EntC.out K (misCarrier_spec _)<|o_pickt Z g21 rfl K<|G Z K<|o_guard Z Z K (fun g23 => ?_) (fun g23 => ?_)
          ·
            have g23 : _ = true := g23
            refine F Z Z K K<|W Z Z g23 K<|O 4 Z Z Z Z K<|W Z Z g23 K<|F Z Z K K<|W Z Z g23 K<|O 3 Z Z Z Z K<|W Z Z g23 K ?_
            refine o_call1 Z Z EntC.out K (has_spec _ _ (by have := carR (n := e.a) (by simp_all); omega) (by have := carR (n := e.a) (by simp_all); omega)) ?_
            refine o_pickt Z g23 rfl K<|o_need Z Z K (fun hn42 => ?_) (fun hn42 => ?_)
            rotate_left
            ·
              exact after_one EntC.out (by simp) (perm_mid (p := [(m, .obj (.map kindsEs (0 + 1 + 1 + 1 + 1)))]) (u := [(x4, .box 44 [I 0]), (x3, .box 32 [I 0, I 0, V [] true, V [] true, V [] true])]) (v := [(x2, .box 41 [I e.kind, I e.t, I e.a, I e.b, I e.c, I e.f, I e.to, I e.m]), (x1, .box 32 (cellsW w f1 f2 f3))])) (step1_pan _ _ _ _ _ _ _ _) (fun h1' e' => by subst e'; exact ⟨_, [], .cons (resC 1 rfl rfl rfl) (.cons (resC 0 rfl rfl rfl) .nil), List.nil_sublist _, rfl, .inr ⟨stepW_bad (by simp only [okE]; simp_all), rfl⟩⟩)
            refine o_nil<|h_seq<|H<|O 4 Z Z Z Z K ?_
            have hok : okE w e = true := by simp only [okE]; simp_all
            have hca : carOk e.a = true := by simp_all
            have hcb : carOk e.b = true := by simp_all
            have hcc : carOk e.c = true := by simp_all
            refine o_callN Z Z EntC.out K (copied_spec w f1 f2 f3 hbl hv.lb hv.ll (by intro h0; have := hv.lb; simp [h0] at this) (by intro h0; have := hv.ll; simp [h0] at this)) fun v h' hr => ?_
            obtain ⟨f, b1, b2, c1, c2, hc1, hc2, rfl, rfl⟩ := hr
            refine o_build Z Z K<|o_box Z Z K fun x25 => S Z K<|o_nil<|h_seq<|H<|G Z K<|G Z K<|O 6 Z Z Z Z K<|o_callFE (h2 := [(m, .obj (.map kindsEs (0 + 1 + 1 + 1 + 1))), (x4, .box 44 [I 0]), (x3, .box 32 [I 0, I 0, V [] true, V [] true, V [] true]), (x2, .box 41 [I e.kind, I e.t, I e.a, I e.b, I e.c, I e.f, I e.to, I e.m]), (x1, .box 32 (cellsW w f1 f2 f3))]) rfl rfl rfl EntC.out K (split_do w f x25 b1 b2 c1 c2 e hv (carR hca).1 (carR hca).2 (carR hcb).1 (carR hcb).2 (carR hcc).1 (carR hcc).2) (fun v h' hr => ?_) (fun c h' hr => ?_)
            rotate_left
            ·
              obtain ⟨_, _, _, h2, _⟩ | ⟨hd, h2⟩ := hr
              · cases h2
              cases h2
              rw [← doW2 hk] at hd
              rw [show h' ++ [(m, .obj (.map kindsEs (0 + 1 + 1 + 1 + 1))), (x4, .box 44 [I 0]), (x3, .box 32 [I 0, I 0, V [] true, V [] true, V [] true]), (x2, .box 41 [I e.kind, I e.t, I e.a, I e.b, I e.c, I e.f, I e.to, I e.m]), (x1, .box 32 (cellsW w f1 f2 f3))] = (h' ++ [(m, .obj (.map kindsEs (0 + 1 + 1 + 1 + 1)))]) ++ [(x4, .box 44 [I 0]), (x3, .box 32 [I 0, I 0, V [] true, V [] true, V [] true]), (x2, .box 41 [I e.kind, I e.t, I e.a, I e.b, I e.c, I e.f, I e.to, I e.m]), (x1, .box 32 (cellsW w f1 f2 f3))] from by simp]
              exact after_one EntC.out (by simp) (perm_mid (p := h' ++ [(m, .obj (.map kindsEs (0 + 1 + 1 + 1 + 1)))]) (u := [(x4, .box 44 [I 0]), (x3, .box 32 [I 0, I 0, V [] true, V [] true, V [] true])]) (v := [(x2, .box 41 [I e.kind, I e.t, I e.a, I e.b, I e.c, I e.f, I e.to, I e.m]), (x1, .box 32 (cellsW w f1 f2 f3))])) (step1_pan _ _ _ _ _ _ _ _) (fun h1' e' => by subst e'; exact ⟨_, [], .cons (resC 1 rfl rfl rfl) (.cons (resC 0 rfl rfl rfl) .nil), List.nil_sublist _, rfl, .inr ⟨stepW_no hok hd, rfl⟩⟩)
            obtain ⟨w', f', hd, h2, rfl⟩ | ⟨_, h2⟩ := hr
            rotate_left
            · cases h2
            cases h2
            rw [← doW2 hk] at hd
            have hlen := doW_len hv hd
            refine o_nil<|h_frzW w' f' x25 b1 b2 c1 c2 hlen.1 hlen.2 hc1 hc2<|h_seq<|H<|G Z K<|o_nilp Z K<|F Z Z K K<|O 0 Z Z Z Z K<|o_call1 Z Z EntC.out K (mvalid_spec w' f' false false)<|o_need Z Z K (fun hn56 => ?_) (fun hn56 => ?_)
            rotate_left
            ·
              exact after_one EntC.out (by simp) (perm_mid (p := [(x25, .box 197 (cellsW w' f' false false)), (m, .obj (.map kindsEs (0 + 1 + 1 + 1 + 1)))]) (u := [(x4, .box 44 [I 0]), (x3, .box 32 [I 0, I 0, V [] true, V [] true, V [] true])]) (v := [(x2, .box 41 [I e.kind, I e.t, I e.a, I e.b, I e.c, I e.f, I e.to, I e.m]), (x1, .box 32 (cellsW w f1 f2 f3))])) (step1_pan _ _ _ _ _ _ _ _) (fun h1' e' => by subst e'; exact ⟨_, [], .cons (resC 1 rfl rfl rfl) (.cons (resC 0 rfl rfl rfl) .nil), List.nil_sublist _, rfl, .inr ⟨stepW_inv hok hd hn56, rfl⟩⟩)
            refine o_nil<|h_seq<|H<|G Z K<|o_nilp Z K<|F Z Z K K<|O 0 Z Z Z Z K ?_
            refine o_store 3 Z Z Z Z Z Z ?_
            exact o_store 2 Z Z Z Z Z Z<|o_nil<|h_ret<|after_one EntC.out (by simp) (perm_mid (p := [(x25, .box 197 (cellsW w' f' false false)), (m, .obj (.map kindsEs (0 + 1 + 1 + 1 + 1)))]) (u := [(x4, .box 44 [I 0]), (x3, .box 32 (cellsW w' f' false false))]) (v := [(x2, .box 41 [I e.kind, I e.t, I e.a, I e.b, I e.c, I e.f, I e.to, I e.m]), (x1, .box 32 (cellsW w f1 f2 f3))])) (step1_ret _ _ _ _ _ _ _ _) (fun h1' e' => by subst e'; exact ⟨_, [], .cons (resC 1 rfl rfl rfl) (.cons (resC 0 rfl rfl rfl) .nil), List.nil_sublist _, rfl, .inl ⟨w', f', stepW_ok hok hd hn56, rfl⟩⟩)
          ·
            have g23 : _ = false := g23
            refine U Z Z g23 K<|U Z Z g23 K<|U Z Z g23 K<|U Z Z g23 K<|o_pickf Z g23 rfl K<|o_need Z Z K (fun hn42 => absurd hn42 (by simp_all)) (fun hn42 => ?_)
            exact after_one EntC.out (by simp) (perm_mid (p := [(m, .obj (.map kindsEs (0 + 1 + 1 + 1 + 1)))]) (u := [(x4, .box 44 [I 0]), (x3, .box 32 [I 0, I 0, V [] true, V [] true, V [] true])]) (v := [(x2, .box 41 [I e.kind, I e.t, I e.a, I e.b, I e.c, I e.f, I e.to, I e.m]), (x1, .box 32 (cellsW w f1 f2 f3))])) (step1_pan _ _ _ _ _ _ _ _) (fun h1' e' => by subst e'; exact ⟨_, [], .cons (resC 1 rfl rfl rfl) (.cons (resC 0 rfl rfl rfl) .nil), List.nil_sublist _, rfl, .inr ⟨stepW_bad (by simp only [okE]; simp_all), rfl⟩⟩)
        ·
          have g21 : _ = false := g21
          refine U Z Z g21 K<|U Z Z g21 K<|o_pickf Z g21 rfl K<|G Z K<|U Z Z Z K<|U Z Z Z K<|U Z Z Z K<|U Z Z Z K<|U Z Z Z K<|o_pickf Z Z Z K<|o_need Z Z K (fun hn42 => absurd hn42 (by simp_all)) (fun hn42 => ?_)
          exact after_one EntC.out (by simp) (perm_mid (p := [(m, .obj (.map kindsEs (0 + 1 + 1 + 1 + 1)))]) (u := [(x4, .box 44 [I 0]), (x3, .box 32 [I 0, I 0, V [] true, V [] true, V [] true])]) (v := [(x2, .box 41 [I e.kind, I e.t, I e.a, I e.b, I e.c, I e.f, I e.to, I e.m]), (x1, .box 32 (cellsW w f1 f2 f3))])) (step1_pan _ _ _ _ _ _ _ _) (fun h1' e' => by subst e'; exact ⟨_, [], .cons (resC 1 rfl rfl rfl) (.cons (resC 0 rfl rfl rfl) .nil), List.nil_sublist _, rfl, .inr ⟨stepW_bad (by simp only [okE]; simp_all), rfl⟩⟩)
      ·
        have g19 : _ = false := g19
        refine U Z Z g19 K<|U Z Z g19 K<|o_pickf Z g19 rfl K<|G Z K<|U Z Z Z K<|U Z Z Z K<|U Z Z Z K<|o_pickf Z Z Z K<|G Z K<|U Z Z Z K<|U Z Z Z K<|U Z Z Z K ?_
        refine U Z Z Z K<|U Z Z Z K<|o_pickf Z Z Z K<|o_need Z Z K (fun hn42 => absurd hn42 (by simp_all)) (fun hn42 => ?_)
        exact after_one EntC.out (by simp) (perm_mid (p := [(m, .obj (.map kindsEs (0 + 1 + 1 + 1 + 1)))]) (u := [(x4, .box 44 [I 0]), (x3, .box 32 [I 0, I 0, V [] true, V [] true, V [] true])]) (v := [(x2, .box 41 [I e.kind, I e.t, I e.a, I e.b, I e.c, I e.f, I e.to, I e.m]), (x1, .box 32 (cellsW w f1 f2 f3))])) (step1_pan _ _ _ _ _ _ _ _) (fun h1' e' => by subst e'; exact ⟨_, [], .cons (resC 1 rfl rfl rfl) (.cons (resC 0 rfl rfl rfl) .nil), List.nil_sublist _, rfl, .inr ⟨stepW_bad (by simp only [okE]; simp_all), rfl⟩⟩)
    ·
      have g17 : _ = false := g17
      refine U Z Z g17 K<|U Z Z g17 K<|o_pickf Z g17 rfl K<|G Z K<|U Z Z Z K<|U Z Z Z K<|U Z Z Z K<|o_pickf Z Z Z K<|G Z K<|U Z Z Z K<|U Z Z Z K<|U Z Z Z K ?_
      refine o_pickf Z Z Z K<|G Z K<|U Z Z Z K<|U Z Z Z K<|U Z Z Z K<|U Z Z Z K<|U Z Z Z K<|o_pickf Z Z Z K<|o_need Z Z K (fun hn42 => absurd hn42 (by simp_all)) (fun hn42 => ?_)
      exact after_one EntC.out (by simp) (perm_mid (p := [(m, .obj (.map kindsEs (0 + 1 + 1 + 1 + 1)))]) (u := [(x4, .box 44 [I 0]), (x3, .box 32 [I 0, I 0, V [] true, V [] true, V [] true])]) (v := [(x2, .box 41 [I e.kind, I e.t, I e.a, I e.b, I e.c, I e.f, I e.to, I e.m]), (x1, .box 32 (cellsW w f1 f2 f3))])) (step1_pan _ _ _ _ _ _ _ _) (fun h1' e' => by subst e'; exact ⟨_, [], .cons (resC 1 rfl rfl rfl) (.cons (resC 0 rfl rfl rfl) .nil), List.nil_sublist _, rfl, .inr ⟨stepW_bad (by simp only [okE]; simp_all), rfl⟩⟩)
  ·
    refine h_seq<|h_draw _ (List.nil_sublist _) [(1, .flo), (2, .val), (0, .new), (3, .sto), (4, .flo)] mixed (by kernel_rfl)<|C Z Z (fun jj => F Z Z K K jj)<|c_val Z Z (fun _ _ _ _ jj => O 2 Z Z Z Z K jj)<|c_newG (ι := Nat) (fun m => M m) (fun m => [(m, .obj (.map kindsEs (0 + 1 + 1 + 1 + 1)))]) rfl rfl (fun X r Q ds k => o_callA Z Z EntC.out K kinds_spec fun v h' hr => by obtain ⟨m, rfl, rfl⟩ := hr; exact k m) fun m => ?_
    refine c_stov (List.nil_sublist _) rfl rfl (fun _ _ _ _ jj => o_lookup 0 Z Z Z (by rw [hk]; exact find3) (rel_fn0 _) K jj)<|C Z Z (fun jj => S Z K jj)<|c_nil<|h_seq<|H<|G Z K<|o_neqf Z K<|G Z K<|W Z Z Z K<|F Z Z K K<|W Z Z Z K<|O 3 Z Z Z Z K ?_
    refine W Z Z Z K<|o_call1 Z Z EntC.out K (isIn_spec _ _ _)<|o_pickt Z Z Z K<|G Z K<|o_guard Z Z K (fun g28 => ?_) (fun g28 => ?_)
    ·
      have g28 : _ = true := g28
      refine F Z Z K K<|W Z Z g28 K<|O 3 Z Z Z Z K<|W Z Z g28 K<|o_call1 Z Z EntC.out K (misCarrier_spec _)<|o_pickt Z g28 rfl K<|G Z K<|o_guard Z Z K (fun g30 => ?_) (fun g30 => ?_)
      ·
        have g30 : _ = true := g30
        refine F Z Z K K<|W Z Z g30 K<|O 3 Z Z Z Z K<|W Z Z g30 K<|o_call1 Z Z EntC.out K (misCarrier_spec _)<|o_pickt Z g30 rfl K<|G Z K<|o_guard Z Z K (fun g32 => ?_) (fun g32 => ?_)
        ·
          have g32 : _ = true := g32
          refine F Z Z K K<|W Z Z g32 K<|O 3 Z Z Z Z K<|W Z Z g32 K<|o_call1 Z Z EntC.out K (misCarrier_spec _)<|o_pickt Z g32 rfl K<|G Z K<|o_guard Z Z K (fun g34 => ?_) (fun g34 => ?_)
          ·
            have g34 : _ = true := g34
            refine F Z Z K K<|W Z Z g34 K<|O 4 Z Z Z Z K<|W Z Z g34 K<|F Z Z K K<|W Z Z g34 K<|O 3 Z Z Z Z K<|W Z Z g34 K ?_
            refine o_call1 Z Z EntC.out K (has_spec _ _ (by have := carR (n := e.a) (by simp_all); omega) (by have := carR (n := e.a) (by simp_all); omega)) ?_
            refine o_pickt Z g34 rfl K<|o_need Z Z K (fun hn42 => ?_) (fun hn42 => ?_)
            rotate_left
            ·
              exact after_one EntC.out (by simp) (perm_mid (p := [(m, .obj (.map kindsEs (0 + 1 + 1 + 1 + 1)))]) (u := [(x4, .box 44 [I 0]), (x3, .box 32 [I 0, I 0, V [] true, V [] true, V [] true])]) (v := [(x2, .box 41 [I e.kind, I e.t, I e.a, I e.b, I e.c, I e.f, I e.to, I e.m]), (x1, .box 32 (cellsW w f1 f2 f3))])) (step1_pan _ _ _ _ _ _ _ _) (fun h1' e' => by subst e'; exact ⟨_, [], .cons (resC 1 rfl rfl rfl) (.cons (resC 0 rfl rfl rfl) .nil), List.nil_sublist _, rfl, .inr ⟨stepW_bad (by simp only [okE]; simp_all), rfl⟩⟩)
            refine o_nil<|h_seq<|H<|O 4 Z Z Z Z K ?_
            have hok : okE w e = true := by simp only [okE]; simp_all
            have hca : carOk e.a = true := by simp_all
            have hcb : carOk e.b = true := by simp_all
            have hcc : carOk e.c = true := by simp_all
            refine o_callN Z Z EntC.out K (copied_spec w f1 f2 f3 hbl hv.lb hv.ll (by intro h0; have := hv.lb; simp [h0] at this) (by intro h0; have := hv.ll; simp [h0] at this)) fun v h' hr => ?_
            obtain ⟨f, b1, b2, c1, c2, hc1, hc2, rfl, rfl⟩ := hr
            refine o_build Z Z K<|o_box Z Z K fun x36 => S Z K<|o_nil<|h_seq<|H<|G Z K<|G Z K<|O 6 Z Z Z Z K<|o_callFE (h2 := [(m, .obj (.map kindsEs (0 + 1 + 1 + 1 + 1))), (x4, .box 44 [I 0]), (x3, .box 32 [I 0, I 0, V [] true, V [] true, V [] true]), (x2, .box 41 [I e.kind, I e.t, I e.a, I e.b, I e.c, I e.f, I e.to, I e.m]), (x1, .box 32 (cellsW w f1 f2 f3))]) rfl rfl rfl EntC.out K (windUp_do w f x36 b1 b2 c1 c2 e hv (carR hca).1 (carR hca).2 (carR hcb).1 (carR hcb).2 (carR hcc).1 (carR hcc).2) (fun v h' hr => ?_) (fun c h' hr => ?_)
            rotate_left
            ·
              obtain ⟨_, _, _, h2, _⟩ | ⟨hd, h2⟩ := hr
              · cases h2
              cases h2
              rw [← doW3 hk] at hd
              rw [show h' ++ [(m, .obj (.map kindsEs (0 + 1 + 1 + 1 + 1))), (x4, .box 44 [I 0]), (x3, .box 32 [I 0, I 0, V [] true, V [] true, V [] true]), (x2, .box 41 [I e.kind, I e.t, I e.a, I e.b, I e.c, I e.f, I e.to, I e.m]), (x1, .box 32 (cellsW w f1 f2 f3))] = (h' ++ [(m, .obj (.map kindsEs (0 + 1 + 1 + 1 + 1)))]) ++ [(x4, .box 44 [I 0]), (x3, .box 32 [I 0, I 0, V [] true, V [] true, V [] true]), (x2, .box 41 [I e.kind, I e.t, I e.a, I e.b, I e.c, I e.f, I e.to, I e.m]), (x1, .box 32 (cellsW w f1 f2 f3))] from by simp]
              exact after_one EntC.out (by simp) (perm_mid (p := h' ++ [(m, .obj (.map kindsEs (0 + 1 + 1 + 1 + 1)))]) (u := [(x4, .box 44 [I 0]), (x3, .box 32 [I 0, I 0, V [] true, V [] true, V [] true])]) (v := [(x2, .box 41 [I e.kind, I e.t, I e.a, I e.b, I e.c, I e.f, I e.to, I e.m]), (x1, .box 32 (cellsW w f1 f2 f3))])) (step1_pan _ _ _ _ _ _ _ _) (fun h1' e' => by subst e'; exact ⟨_, [], .cons (resC 1 rfl rfl rfl) (.cons (resC 0 rfl rfl rfl) .nil), List.nil_sublist _, rfl, .inr ⟨stepW_no hok hd, rfl⟩⟩)
            obtain ⟨w', f', hd, h2, rfl⟩ | ⟨_, h2⟩ := hr
            rotate_left
            · cases h2
            cases h2
            rw [← doW3 hk] at hd
            have hlen := doW_len hv hd
            refine o_nil<|h_frzW w' f' x36 b1 b2 c1 c2 hlen.1 hlen.2 hc1 hc2<|h_seq<|H<|G Z K<|o_nilp Z K<|F Z Z K K<|O 0 Z Z Z Z K<|o_call1 Z Z EntC.out K (mvalid_spec w' f' false false)<|o_need Z Z K (fun hn56 => ?_) (fun hn56 => ?_)
            rotate_left
            ·
              exact after_one EntC.out (by simp) (perm_mid (p := [(x36, .box 197 (cellsW w' f' false false)), (m, .obj (.map kindsEs (0 + 1 + 1 + 1 + 1)))]) (u := [(x4, .box 44 [I 0]), (x3, .box 32 [I 0, I 0, V [] true, V [] true, V [] true])]) (v := [(x2, .box 41 [I e.kind, I e.t, I e.a, I e.b, I e.c, I e.f, I e.to, I e.m]), (x1, .box 32 (cellsW w f1 f2 f3))])) (step1_pan _ _ _ _ _ _ _ _) (fun h1' e' => by subst e'; exact ⟨_, [], .cons (resC 1 rfl rfl rfl) (.cons (resC 0 rfl rfl rfl) .nil), List.nil_sublist _, rfl, .inr ⟨stepW_inv hok hd hn56, rfl⟩⟩)
            refine o_nil<|h_seq<|H<|G Z K<|o_nilp Z K<|F Z Z K K<|O 0 Z Z Z Z K ?_
            refine o_store 3 Z Z Z Z Z Z ?_
            exact o_store 2 Z Z Z Z Z Z<|o_nil<|h_ret<|after_one EntC.out (by simp) (perm_mid (p := [(x36, .box 197 (cellsW w' f' false false)), (m, .obj (.map kindsEs (0 + 1 + 1 + 1 + 1)))]) (u := [(x4, .box 44 [I 0]), (x3, .box 32 (cellsW w' f' false false))]) (v := [(x2, .box 41 [I e.kind, I e.t, I e.a, I e.b, I e.c, I e.f, I e.to, I e.m]), (x1, .box 32 (cellsW w f1 f2 f3))])) (step1_ret _ _ _ _ _ _ _ _) (fun h1' e' => by subst e'; exact ⟨_, [], .cons (resC 1 rfl rfl rfl) (.cons (resC 0 rfl rfl rfl) .nil), List.nil_sublist _, rfl, .inl ⟨w', f', stepW_ok hok hd hn56, rfl⟩⟩)
          ·
            have g34 : _ = false := g34
            refine U Z Z g34 K<|U Z Z g34 K<|U Z Z g34 K<|U Z Z g34 K<|o_pickf Z g34 rfl K<|o_need Z Z K (fun hn42 => absurd hn42 (by simp_all)) (fun hn42 => ?_)
            exact after_one EntC.out (by simp) (perm_mid (p := [(m, .obj (.map kindsEs (0 + 1 + 1 + 1 + 1)))]) (u := [(x4, .box 44 [I 0]), (x3, .box 32 [I 0, I 0, V [] true, V [] true, V [] true])]) (v := [(x2, .box 41 [I e.kind, I e.t, I e.a, I e.b, I e.c, I e.f, I e.to, I e.m]), (x1, .box 32 (cellsW w f1 f2 f3))])) (step1_pan _ _ _ _ _ _ _ _) (fun h1' e' => by subst e'; exact ⟨_, [], .cons (resC 1 rfl rfl rfl) (.cons (resC 0 rfl rfl rfl) .nil), List.nil_sublist _, rfl, .inr ⟨stepW_bad (by simp only [okE]; simp_all), rfl⟩⟩)
        ·
          have g32 : _ = false := g32
          refine U Z Z g32 K<|U Z Z g32 K<|o_pickf Z g32 rfl K<|G Z K<|U Z Z Z K<|U Z Z Z K<|U Z Z Z K<|U Z Z Z K<|U Z Z Z K<|o_pickf Z Z Z K<|o_need Z Z K (fun hn42 => absurd hn42 (by simp_all)) (fun hn42 => ?_)
          exact after_one EntC.out (by simp) (perm_mid (p := [(m, .obj (.map kindsEs (0 + 1 + 1 + 1 + 1)))]) (u := [(x4, .box 44 [I 0]), (x3, .box 32 [I 0, I 0, V [] true, V [] true, V [] true])]) (v := [(x2, .box 41 [I e.kind, I e.t, I e.a, I e.b, I e.c, I e.f, I e.to, I e.m]), (x1, .box 32 (cellsW w f1 f2 f3))])) (step1_pan _ _ _ _ _ _ _ _) (fun h1' e' => by subst e'; exact ⟨_, [], .cons (resC 1 rfl rfl rfl) (.cons (resC 0 rfl rfl rfl) .nil), List.nil_sublist _, rfl, .inr ⟨stepW_bad (by simp only [okE]; simp_all), rfl⟩⟩)
      ·
        have g30 : _ = false := g30
        refine U Z Z g30 K<|U Z Z g30 K<|o_pickf Z g30 rfl K<|G Z K<|U Z Z Z K<|U Z Z Z K<|U Z Z Z K<|o_pickf Z Z Z K<|G Z K<|U Z Z Z K<|U Z Z Z K<|U Z Z Z K ?_
        refine U Z Z Z K<|U Z Z Z K<|o_pickf Z Z Z K<|o_need Z Z K (fun hn42 => absurd hn42 (by simp_all)) (fun hn42 => ?_)
        exact after_one EntC.out (by simp) (perm_mid (p := [(m, .obj (.map kindsEs (0 + 1 + 1 + 1 + 1)))]) (u := [(x4, .box 44 [I 0]), (x3, .box 32 [I 0, I 0, V [] true, V [] true, V [] true])]) (v := [(x2, .box 41 [I e.kind, I e.t, I e.a, I e.b, I e.c, I e.f, I e.to, I e.m]), (x1, .box 32 (cellsW w f1 f2 f3))])) (step1_pan _ _ _ _ _ _ _ _) (fun h1' e' => by subst e'; exact ⟨_, [], .cons (resC 1 rfl rfl rfl) (.cons (resC 0 rfl rfl rfl) .nil), List.nil_sublist _, rfl, .inr ⟨stepW_bad (by simp only [okE]; simp_all), rfl⟩⟩)
    ·
      have g28 : _ = false := g28
      refine U Z Z g28 K<|U Z Z g28 K<|o_pickf Z g28 rfl K<|G Z K<|U Z Z Z K<|U Z Z Z K<|U Z Z Z K<|o_pickf Z Z Z K<|G Z K<|U Z Z Z K<|U Z Z Z K<|U Z Z Z K ?_
      refine o_pickf Z Z Z K<|G Z K<|U Z Z Z K<|U Z Z Z K<|U Z Z Z K<|U Z Z Z K<|U Z Z Z K<|o_pickf Z Z Z K<|o_need Z Z K (fun hn42 => absurd hn42 (by simp_all)) (fun hn42 => ?_)
      exact after_one EntC.out (by simp) (perm_mid (p := [(m, .obj (.map kindsEs (0 + 1 + 1 + 1 + 1)))]) (u := [(x4, .box 44 [I 0]), (x3, .box 32 [I 0, I 0, V [] true, V [] true, V [] true])]) (v := [(x2, .box 41 [I e.kind, I e.t, I e.a, I e.b, I e.c, I e.f, I e.to, I e.m]), (x1, .box 32 (cellsW w f1 f2 f3))])) (step1_pan _ _ _ _ _ _ _ _) (fun h1' e' => by subst e'; exact ⟨_, [], .cons (resC 1 rfl rfl rfl) (.cons (resC 0 rfl rfl rfl) .nil), List.nil_sublist _, rfl, .inr ⟨stepW_bad (by simp only [okE]; simp_all), rfl⟩⟩)
  ·
    refine h_seq<|h_draw _ (List.nil_sublist _) [(1, .flo), (2, .val), (0, .new), (3, .sto), (4, .flo)] mixed (by kernel_rfl)<|C Z Z (fun jj => F Z Z K K jj)<|c_val Z Z (fun _ _ _ _ jj => O 2 Z Z Z Z K jj)<|c_newG (ι := Nat) (fun m => M m) (fun m => [(m, .obj (.map kindsEs (0 + 1 + 1 + 1 + 1)))]) rfl rfl (fun X r Q ds k => o_callA Z Z EntC.out K kinds_spec fun v h' hr => by obtain ⟨m, rfl, rfl⟩ := hr; exact k m) fun m => ?_
    refine c_stov (List.nil_sublist _) rfl rfl (fun _ _ _ _ jj => o_lookup 0 Z Z Z (by rw [hk]; exact find4) (rel_fn0 _) K jj)<|C Z Z (fun jj => S Z K jj)<|c_nil<|h_seq<|H<|G Z K<|o_neqf Z K<|G Z K<|W Z Z Z K<|F Z Z K K<|W Z Z Z K<|O 3 Z Z Z Z K ?_
    refine W Z Z Z K<|o_call1 Z Z EntC.out K (isIn_spec _ _ _)<|o_pickt Z Z Z K<|G Z K<|o_guard Z Z K (fun g39 => ?_) (fun g39 => ?_)
    ·
      have g39 : _ = true := g39
      refine F Z Z K K<|W Z Z g39 K<|O 3 Z Z Z Z K<|W Z Z g39 K<|o_call1 Z Z EntC.out K (misCarrier_spec _)<|o_pickt Z g39 rfl K<|G Z K<|o_guard Z Z K (fun g41 => ?_) (fun g41 => ?_)
      ·
        have g41 : _ = true := g41
        refine F Z Z K K<|W Z Z g41 K<|O 3 Z Z Z Z K<|W Z Z g41 K<|o_call1 Z Z EntC.out K (misCarrier_spec _)<|o_pickt Z g41 rfl K<|G Z K<|o_guard Z Z K (fun g43 => ?_) (fun g43 => ?_)
        ·
          have g43 : _ = true := g43
          refine F Z Z K K<|W Z Z g43 K<|O 3 Z Z Z Z K<|W Z Z g43 K<|o_call1 Z Z EntC.out K (misCarrier_spec _)<|o_pickt Z g43 rfl K<|G Z K<|o_guard Z Z K (fun g45 => ?_) (fun g45 => ?_)
          ·
            have g45 : _ = true := g45
            refine F Z Z K K<|W Z Z g45 K<|O 4 Z Z Z Z K<|W Z Z g45 K<|F Z Z K K<|W Z Z g45 K<|O 3 Z Z Z Z K<|W Z Z g45 K ?_
            refine o_call1 Z Z EntC.out K (has_spec _ _ (by have := carR (n := e.a) (by simp_all); omega) (by have := carR (n := e.a) (by simp_all); omega)) ?_
            refine o_pickt Z g45 rfl K<|o_need Z Z K (fun hn42 => ?_) (fun hn42 => ?_)
            rotate_left
            ·
              exact after_one EntC.out (by simp) (perm_mid (p := [(m, .obj (.map kindsEs (0 + 1 + 1 + 1 + 1)))]) (u := [(x4, .box 44 [I 0]), (x3, .box 32 [I 0, I 0, V [] true, V [] true, V [] true])]) (v := [(x2, .box 41 [I e.kind, I e.t, I e.a, I e.b, I e.c, I e.f, I e.to, I e.m]), (x1, .box 32 (cellsW w f1 f2 f3))])) (step1_pan _ _ _ _ _ _ _ _) (fun h1' e' => by subst e'; exact ⟨_, [], .cons (resC 1 rfl rfl rfl) (.cons (resC 0 rfl rfl rfl) .nil), List.nil_sublist _, rfl, .inr ⟨stepW_bad (by simp only [okE]; simp_all), rfl⟩⟩)
            refine o_nil<|h_seq<|H<|O 4 Z Z Z Z K ?_
            have hok : okE w e = true := by simp only [okE]; simp_all
            have hca : carOk e.a = true := by simp_all
            have hcb : carOk e.b = true := by simp_all
            have hcc : carOk e.c = true := by simp_all
            refine o_callN Z Z EntC.out K (copied_spec w f1 f2 f3 hbl hv.lb hv.ll (by intro h0; have := hv.lb; simp [h0] at this) (by intro h0; have := hv.ll; simp [h0] at this)) fun v h' hr => ?_
            obtain ⟨f, b1, b2, c1, c2, hc1, hc2, rfl, rfl⟩ := hr
            refine o_build Z Z K<|o_box Z Z K fun x47 => S Z K<|o_nil<|h_seq<|H<|G Z K<|G Z K<|O 6 Z Z Z Z K<|o_callFE (h2 := [(m, .obj (.map kindsEs (0 + 1 + 1 + 1 + 1))), (x4, .box 44 [I 0]), (x3, .box 32 [I 0, I 0, V [] true, V [] true, V [] true]), (x2, .box 41 [I e.kind, I e.t, I e.a, I e.b, I e.c, I e.f, I e.to, I e.m]), (x1, .box 32 (cellsW w f1 f2 f3))]) rfl rfl rfl EntC.out K (upgrade_do w f x47 b1 b2 c1 c2 e hv (carR hca).1 (carR hca).2) (fun v h' hr => ?_) (fun c h' hr => ?_)
            rotate_left
            ·
              obtain ⟨_, _, _, h2, _⟩ | ⟨hd, h2⟩ := hr
              · cases h2
              cases h2
              rw [← doW4 hk] at hd
              rw [show h' ++ [(m, .obj (.map kindsEs (0 + 1 + 1 + 1 + 1))), (x4, .box 44 [I 0]), (x3, .box 32 [I 0, I 0, V [] true, V [] true, V [] true]), (x2, .box 41 [I e.kind, I e.t, I e.a, I e.b, I e.c, I e.f, I e.to, I e.m]), (x1, .box 32 (cellsW w f1 f2 f3))] = (h' ++ [(m, .obj (.map kindsEs (0 + 1 + 1 + 1 + 1)))]) ++ [(x4, .box 44 [I 0]), (x3, .box 32 [I 0, I 0, V [] true, V [] true, V [] true]), (x2, .box 41 [I e.kind, I e.t, I e.a, I e.b, I e.c, I e.f, I e.to, I e.m]), (x1, .box 32 (cellsW w f1 f2 f3))] from by simp]
              exact after_one EntC.out (by simp) (perm_mid (p := h' ++ [(m, .obj (.map kindsEs (0 + 1 + 1 + 1 + 1)))]) (u := [(x4, .box 44 [I 0]), (x3, .box 32 [I 0, I 0, V [] true, V [] true, V [] true])]) (v := [(x2, .box 41 [I e.kind, I e.t, I e.a, I e.b, I e.c, I e.f, I e.to, I e.m]), (x1, .box 32 (cellsW w f1 f2 f3))])) (step1_pan _ _ _ _ _ _ _ _) (fun h1' e' => by subst e'; exact ⟨_, [], .cons (resC 1 rfl rfl rfl) (.cons (resC 0 rfl rfl rfl) .nil), List.nil_sublist _, rfl, .inr ⟨stepW_no hok hd, rfl⟩⟩)
            obtain ⟨w', f', hd, h2, rfl⟩ | ⟨_, h2⟩ := hr
            rotate_left
            · cases h2
            cases h2
            rw [← doW4 hk] at hd
            have hlen := doW_len hv hd
            refine o_nil<|h_frzW w' f' x47 b1 b2 c1 c2 hlen.1 hlen.2 hc1 hc2<|h_seq<|H<|G Z K<|o_nilp Z K<|F Z Z K K<|O 0 Z Z Z Z K<|o_call1 Z Z EntC.out K (mvalid_spec w' f' false false)<|o_need Z Z K (fun hn56 => ?_) (fun hn56 => ?_)
            rotate_left
            ·
              exact after_one EntC.out (by simp) (perm_mid (p := [(x47, .box 197 (cellsW w' f' false false)), (m, .obj (.map kindsEs (0 + 1 + 1 + 1 + 1)))]) (u := [(x4, .box 44 [I 0]), (x3, .box 32 [I 0, I 0, V [] true, V [] true, V [] true])]) (v := [(x2, .box 41 [I e.kind, I e.t, I e.a, I e.b, I e.c, I e.f, I e.to, I e.m]), (x1, .box 32 (cellsW w f1 f2 f3))])) (step1_pan _ _ _ _ _ _ _ _) (fun h1' e' => by subst e'; exact ⟨_, [], .cons (resC 1 rfl rfl rfl) (.cons (resC 0 rfl rfl rfl) .nil), List.nil_sublist _, rfl, .inr ⟨stepW_inv hok hd hn56, rfl⟩⟩)
            refine o_nil<|h_seq<|H<|G Z K<|o_nilp Z K<|F Z Z K K<|O 0 Z Z Z Z K ?_
            refine o_store 3 Z Z Z Z Z Z ?_
            exact o_store 2 Z Z Z Z Z Z<|o_nil<|h_ret<|after_one EntC.out (by simp) (perm_mid (p := [(x47, .box 197 (cellsW w' f' false false)), (m, .obj (.map kindsEs (0 + 1 + 1 + 1 + 1)))]) (u := [(x4, .box 44 [I 0]), (x3, .box 32 (cellsW w' f' false false))]) (v := [(x2, .box 41 [I e.kind, I e.t, I e.a, I e.b, I e.c, I e.f, I e.to, I e.m]), (x1, .box 32 (cellsW w f1 f2 f3))])) (step1_ret _ _ _ _ _ _ _ _) (fun h1' e' => by subst e'; exact ⟨_, [], .cons (resC 1 rfl rfl rfl) (.cons (resC 0 rfl rfl rfl) .nil), List.nil_sublist _, rfl, .inl ⟨w', f', stepW_ok hok hd hn56, rfl⟩⟩)
          ·
            have g45 : _ = false := g45
            refine U Z Z g45 K<|U Z Z g45 K<|U Z Z g45 K<|U Z Z g45 K<|o_pickf Z g45 rfl K<|o_need Z Z K (fun hn42 => absurd hn42 (by simp_all)) (fun hn42 => ?_)
            exact after_one EntC.out (by simp) (perm_mid (p := [(m, .obj (.map kindsEs (0 + 1 + 1 + 1 + 1)))]) (u := [(x4, .box 44 [I 0]), (x3, .box 32 [I 0, I 0, V [] true, V [] true, V [] true])]) (v := [(x2, .box 41 [I e.kind, I e.t, I e.a, I e.b, I e.c, I e.f, I e.to, I e.m]), (x1, .box 32 (cellsW w f1 f2 f3))])) (step1_pan _ _ _ _ _ _ _ _) (fun h1' e' => by subst e'; exact ⟨_, [], .cons (resC 1 rfl rfl rfl) (.cons (resC 0 rfl rfl rfl) .nil), List.nil_sublist _, rfl, .inr ⟨stepW_bad (by simp only [okE]; simp_all), rfl⟩⟩)
        ·
          have g43 : _ = false := g43
          refine U Z Z g43 K<|U Z Z g43 K<|o_pickf Z g43 rfl K<|G Z K<|U Z Z Z K<|U Z Z Z K<|U Z Z Z K<|U Z Z Z K<|U Z Z Z K<|o_pickf Z Z Z K<|o_need Z Z K (fun hn42 => absurd hn42 (by simp_all)) (fun hn42 => ?_)
          exact after_one EntC.out (by simp) (perm_mid (p := [(m, .obj (.map kindsEs (0 + 1 + 1 + 1 + 1)))]) (u := [(x4, .box 44 [I 0]), (x3, .box 32 [I 0, I 0, V [] true, V [] true, V [] true])]) (v := [(x2, .box 41 [I e.kind, I e.t, I e.a, I e.b, I e.c, I e.f, I e.to, I e.m]), (x1, .box 32 (cellsW w f1 f2 f3))])) (step1_pan _ _ _ _ _ _ _ _) (fun h1' e' => by subst e'; exact ⟨_, [], .cons (resC 1 rfl rfl rfl) (.cons (resC 0 rfl rfl rfl) .nil), List.nil_sublist _, rfl, .inr ⟨stepW_bad (by simp only [okE]; simp_all), rfl⟩⟩)
      ·
        have g41 : _ = false := g41
        refine U Z Z g41 K<|U Z Z g41 K<|o_pickf Z g41 rfl K<|G Z K<|U Z Z Z K<|U Z Z Z K<|U Z Z Z K<|o_pickf Z Z Z K<|G Z K<|U Z Z Z K<|U Z Z Z K<|U Z Z Z K ?_
        refine U Z Z Z K<|U Z Z Z K<|o_pickf Z Z Z K<|o_need Z Z K (fun hn42 => absurd hn42 (by simp_all)) (fun hn42 => ?_)
        exact after_one EntC.out (by simp) (perm_mid (p := [(m, .obj (.map kindsEs (0 + 1 + 1 + 1 + 1)))]) (u := [(x4, .box 44 [I 0]), (x3, .box 32 [I 0, I 0, V [] true, V [] true, V [] true])]) (v := [(x2, .box 41 [I e.kind, I e.t, I e.a, I e.b, I e.c, I e.f, I e.to, I e.m]), (x1, .box 32 (cellsW w f1 f2 f3))])) (step1_pan _ _ _ _ _ _ _ _) (fun h1' e' => by subst e'; exact ⟨_, [], .cons (resC 1 rfl rfl rfl) (.cons (resC 0 rfl rfl rfl) .nil), List.nil_sublist _, rfl, .inr ⟨stepW_bad (by simp only [okE]; simp_all), rfl⟩⟩)
    ·
      have g39 : _ = false := g39
      refine U Z Z g39 K<|U Z Z g39 K<|o_pickf Z g39 rfl K<|G Z K<|U Z Z Z K<|U Z Z Z K<|U Z Z Z K<|o_pickf Z Z Z K<|G Z K<|U Z Z Z K<|U Z Z Z K<|U Z Z Z K ?_
      refine o_pickf Z Z Z K<|G Z K<|U Z Z Z K<|U Z Z Z K<|U Z Z Z K<|U Z Z Z K<|U Z Z Z K<|o_pickf Z Z Z K<|o_need Z Z K (fun hn42 => absurd hn42 (by simp_all)) (fun hn42 => ?_)
      exact after_one EntC.out (by simp) (perm_mid (p := [(m, .obj (.map kindsEs (0 + 1 + 1 + 1 + 1)))]) (u := [(x4, .box 44 [I 0]), (x3, .box 32 [I 0, I 0, V [] true, V [] true, V [] true])]) (v := [(x2, .box 41 [I e.kind, I e.t, I e.a, I e.b, I e.c, I e.f, I e.to, I e.m]), (x1, .box 32 (cellsW w f1 f2 f3))])) (step1_pan _ _ _ _ _ _ _ _) (fun h1' e' => by subst e'; exact ⟨_, [], .cons (resC 1 rfl rfl rfl) (.cons (resC 0 rfl rfl rfl) .nil), List.nil_sublist _, rfl, .inr ⟨stepW_bad (by simp only [okE]; simp_all), rfl⟩⟩)
  ·
    refine h_seq<|h_draw _ (List.nil_sublist _) [(1, .flo), (2, .val), (0, .new), (3, .sto), (4, .flo)] mixed (by kernel_rfl)<|C Z Z (fun jj => F Z Z K K jj)<|c_val Z Z (fun _ _ _ _ jj => O 2 Z Z Z Z K jj)<|c_newG (ι := Nat) (fun m => M m) (fun m => [(m, .obj (.map kindsEs (0 + 1 + 1 + 1 + 1)))]) rfl rfl (fun X r Q ds k => o_callA Z Z EntC.out K kinds_spec fun v h' hr => by obtain ⟨m, rfl, rfl⟩ := hr; exact k m) fun m => ?_
    refine c_stov (List.nil_sublist _) rfl rfl (fun _ _ _ _ jj => o_lookup0 0 Z Z Z (find0 hk1 hk2 hk3 hk4) (fun w => ZeroV.run inferInstance w) K jj)<|C Z Z (fun jj => S Z K jj)<|c_nil<|h_seq<|H<|G Z K<|o_neqf0 Z K<|G Z K<|U Z Z Z K<|U Z Z Z K<|U Z Z Z K<|o_pickf Z Z Z K ?_
    refine G Z K<|U Z Z Z K<|U Z Z Z K<|U Z Z Z K<|o_pickf Z Z Z K<|G Z K<|U Z Z Z K<|U Z Z Z K<|U Z Z Z K<|o_pickf Z Z Z K<|G Z K<|U Z Z Z K ?_
    refine U Z Z Z K<|U Z Z Z K<|o_pickf Z Z Z K<|G Z K<|U Z Z Z K<|U Z Z Z K<|U Z Z Z K<|U Z Z Z K<|U Z Z Z K<|o_pickf Z Z Z K<|o_need Z Z K (fun hn42 => absurd hn42 (by simp_all)) (fun hn42 => ?_)
    exact after_one EntC.out (by simp) (perm_mid (p := [(m, .obj (.map kindsEs (0 + 1 + 1 + 1 + 1)))]) (u := [(x4, .box 44 [I 0]), (x3, .box 32 [I 0, I 0, V [] true, V [] true, V [] true])]) (v := [(x2, .box 41 [I e.kind, I e.t, I e.a, I e.b, I e.c, I e.f, I e.to, I e.m]), (x1, .box 32 (cellsW w f1 f2 f3))])) (step1_pan _ _ _ _ _ _ _ _) (fun h1' e' => by subst e'; exact ⟨_, [], .cons (resC 1 rfl rfl rfl) (.cons (resC 0 rfl rfl rfl) .nil), List.nil_sublist _, rfl, .inr ⟨stepW_bad (by have : ¬ (1 ≤ e.kind ∧ e.kind ≤ 4) := (by omega); simp [okE, this]), rfl⟩⟩)

end Go.Proofs.YtnoicbajhlpndaaGreat
