/- The walks of slices.AppendSeq and Collect of events, and of merge.At. -/
import Derived.Test.YtnoicbajhlpndaaGreatRefC
import Derived.Test.YtnoicbajhlpndaaGreatStepC
namespace Go.Proofs.YtnoicbajhlpndaaGreat
open Go Go.RowKit Go.Shelf Hp
set_option maxRecDepth 10000
set_option maxHeartbeats 1000000
set_option linter.unusedVariables false
set_option linter.unusedSimpArgs false
attribute [local irreducible] WP WPs FnX IterX YdX RetP PanP Ch Back Join
/-- Rounds: nothing yet; some events. -/
inductive ColI (l : List Ev) (x2 : Nat) : Nat → AHeap → Prop
  | nil (h1 : AHeap) (hs : ([(x2, .box 25 [V [] true])] : AHeap).Sublist h1) : ColI l x2 0 h1
  | some (i ob c len : Nat) (es : List (List PV)) (h1 : AHeap) (h0 : 0 < i) (hi : i ≤ l.length) (he : es = (l.take i).map encV) (hl : len = i) (hc : len ≤ c)
      (hs : ([(ob, .arr 41 8 es c), (x2, .box 25 [.os ob 8 0 len c])] : AHeap).Sublist h1) : ColI l x2 i h1
theorem take_enc {l : List Ev} {i : Nat} {e : Ev} (h : l[i]? = some e) : (l.take (i + 1)).map encV = (l.take i).map encV ++ [encV e] := by
  rw [List.take_add_one, h]; simp

theorem appendSeq_spec (l : List Ev) (hlen : l.length ≤ 1000000000) (g : FuncId) [hg : EntC Tryz.prog g] (caps : List AV) (hI : AHeap) (it : ∀ Y : Ctx, IterX Tryz.prog Y g caps hI (l.map fun e => [encE e])) : Fc Tryz.prog 129 [V [] true, .fn g caps] hI (fun r h' => (∃ f, r = V (l.map encV) f) ∧ h' = []) := by
  refine fnE_intro (N := 13) Tryz.func129 rfl rfl rfl ?_
  intro X
  refine h_seq<|H<|o_box Z Z K fun x1 => S Z K<|o_nil<|h_seq<|h_seq<|H<|G Z K<|o_nil<|h_block<|h_rangeFunc Z hg.out ⟨List.perm_append_comm (l₁ := [_])⟩ K it (by intro args ha; obtain ⟨p, _, rfl⟩ := List.mem_map.1 ha; rfl) (ColI l x1) (fun _ _ => False) (.nil _ (.refl _)) ?_ ?_ (by intro c D h' hx; exact hx.elim)
  · intro Y yl i args h1 hget hI
    obtain ⟨e, hee, rfl⟩ := ev_get hget
    have hil : i < l.length := by rcases Nat.lt_or_ge i l.length with h | h; exact h; rw [List.getElem?_eq_none h] at hee; cases hee
    have hte := take_enc hee
    cases hI with
    | nil _ hs =>
      refine h_sub _ hs<|H<|o_alloc K fun x2 => ?_
      refine o_store 0 Z Z Z Z Z Z<|o_nil<|h_block<|H<|O 1 Z Z Z Z K<|O 0 Z Z Z Z K<|o_buildSlicep Z (by rfl) (by rfl) (by rfl) (by rfl) K ?_
      refine o_appendv Z Z (Src.v _ _) (okB_one rfl) (by simp [chunk]) (by rw [chunk_length]; omega) (by first | (simp only [List.length_map, List.length_take, chunk_length, List.length_nil]; omega) | (simp [chunk_length]; try omega)) K fun x3 c4 hc5 => ?_
      exact o_store 2 Z Z Z Z Z Z<|o_nil<|.some _ _ _ _ _ _ (Nat.succ_pos _) hil (by rw [hte]; rfl) (by simp [chunk_length]) (by simpa [chunk_length] using hc5) (.cons_cons _ (.cons _ (.cons_cons _ (.refl _))))
    | some _ ob c' len es _ h0 hi he hl hc hs =>
      subst he; subst hl
      refine h_sub _ hs<|H<|o_alloc K fun x6 => ?_
      refine o_store 0 Z Z Z Z Z Z<|o_nil<|h_block<|H<|O 2 Z Z Z Z K<|O 0 Z Z Z Z K<|o_buildSlicep Z (by rfl) (by rfl) (by rfl) (by rfl) K ?_
      refine o_append 1 Z Z Z (Src.v _ _) (okB_one rfl) (by simp; omega) (by first | (simp only [List.length_map, List.length_take, chunk_length, List.length_nil]; omega) | (simp [chunk_length]; try omega)) K fun x7 c8 hc9 => ?_
      exact o_store 2 Z Z Z Z Z Z<|o_nil<|.some _ _ _ _ _ _ (Nat.succ_pos _) hil (by rw [hte]; rfl) (by simp [chunk_length]; try omega) (by simpa [chunk_length] using hc9) (.cons _ (.cons_cons _ (.cons_cons _ (.refl _))))
  · intro D h' hI
    rw [List.length_map] at hI
    generalize hn : l.length = n at hI
    cases hI with
    | nil _ hs =>
      obtain rfl := List.length_eq_zero_iff.1 hn
      exact h_sub _ (.cons_cons _ hs)<|h_seq<|H<|O 1 Z Z Z Z K<|S Z K<|o_nil<|h_ret<|retD1 [D] rfl (by simp) (by simp) rfl (.refl _) ⟨_, rfl, ⟨_, rfl⟩, rfl⟩
    | some _ ob c' len es _ h0 hi he hl hc hs =>
      subst he; subst hl
      subst hn
      rw [List.take_length] at hs
      exact h_sub _ (.cons_cons _ hs)<|h_seq<|H<|O 2 Z Z Z Z K<|S Z K<|o_nil<|h_ret<|retD1 [D] rfl (by simp) (by simp) rfl (frz_os (List.mem_cons_of_mem _ List.mem_cons_self) (by simp) hc) ⟨_, rfl, ⟨_, rfl⟩, rfl⟩

theorem collect_spec (l : List Ev) (hlen : l.length ≤ 1000000000) (g : FuncId) [hg : EntC Tryz.prog g] (caps : List AV) (hI : AHeap) (it : ∀ Y : Ctx, IterX Tryz.prog Y g caps hI (l.map fun e => [encE e])) : Fc Tryz.prog 81 [.fn g caps] hI (fun r h' => (∃ f, r = V (l.map encV) f) ∧ h' = []) := by
 refine fnE_intro (N := 5) Tryz.func81 rfl rfl rfl ?_
 intro X
 refine h_seq<|H<|S Z K<|o_nil<|h_seq<|H<|G Z K<|o_callA Z Z EntC.out K (appendSeq_spec l hlen g caps hI it) fun v h' hr => ?_
 obtain ⟨⟨fv, rfl⟩, rfl⟩ := hr
 exact S Z K<|o_nil<|h_ret<|retK1 rfl ⟨_, rfl, ⟨_, rfl⟩, rfl⟩

/-- The world at a time. -/
def atMW (w : Wd) (l : List Ev) (t : Int) : Wd × Int := if possM w l t then ((runM w (untilM l t)).1, 0) else (wd0, 420)
theorem until_len (l : List Ev) (t : Int) : (untilM l t).length ≤ l.length := (List.takeWhile_sublist _).length_le

theorem at_spec' (w : Wd) (l : List Ev) (t : Int) (hlen : l.length ≤ 1000000000) (f1 f2 f3 f : Bool) : Fc Tryz.prog 24 [encW w f1 f2 f3, V (l.map encV) f, I t] [] (fun r h' => h' = [] ∧ ∃ f1 f2 f3, r = .tup [encW (atMW w l t).1 f1 f2 f3, I (atMW w l t).2]) := by
 have hul := until_len l t; refine fnE_intro (N := 28) Tryz.func24 rfl rfl rfl ?_
 intro X
 refine h_seq<|H<|o_box Z Z K fun x10 => o_alloc K fun x11 => S Z K<|o_nil<|h_seq<|h_seq<|H<|O 1 Z Z Z Z K<|G Z K<|G Z K ?_
 refine o_call1 Z Z EntC.out K (isPossible_spec w l t hlen f1 f2 f3 f)<|o_not Z K<|o_nil<|h_cond Z (fun c13 => ?_) (fun c13 => ?_)
 ·
  refine h_seq<|H<|o_build Z Z K ?_
  refine o_store 0 Z Z Z Z Z Z<|S Z K<|o_nil<|h_ret ?_
  have hq : atMW w l t = (wd0, 420) := by unfold atMW possM; rw [if_neg (by first | (simp_all; done) | (simp_all; intro q; simp_all))]
  exact retG [] (.cons (resC 0 rfl rfl rfl) (.cons (resT rfl) .nil)) (List.nil_sublist _) ⟨_, rfl, rfl, true, true, true, by rw [hq]; rfl⟩
 ·
  refine h_skip<|h_seq<|h_drawA _ (.cons_cons _ (.cons_cons _ (List.nil_sublist _))) [(0, .box), (1, .flo), (2, .flo), (3, .new), (4, .act), (5, .new), (6, .flo), (7, .flo), (8, .flo), (9, .flo), (10, .alc (.box 32 [I 0, I 0, V [] true, V [] true, V [] true])), (11, .sto), (12, .flo), (13, .flo)] (alc_all ⟨alc_ok rfl K rfl, trivial⟩) mixed (by kernel_rfl)<|c_box Z Z (fun _ _ _ _ jj => O 1 Z Z Z Z K jj)<|C Z Z (fun jj => G Z K jj)<|C Z Z (fun jj => G Z K jj)<|c_newG (ι := Nat × Nat) (fun p => .fn 130 [.ptr p.1 0, .ptr p.2 0]) (fun p => [(p.2, .box 3 [I t]), (p.1, .box 25 [V (l.map encV) f])]) rfl rfl (fun X r Q ds k => o_callN Z Z EntC.out K (until_spec l f t) fun v h' hr => by obtain ⟨e2, e3, rfl, rfl⟩ := hr; exact k (e2, e3)) fun pe => c_actF (ι := Bool) (fun f => V ((untilM l t).map encV) f) (fun _ => []) [_, _] _ (.refl _) (fun _ => .refl _) rfl rfl (fun X r Q ds k => o_callA Z Z EntC.out K (collect_spec (untilM l t) (by omega) 130 _ _ (fun Y => until1_spec l hlen f t _ _ Y)) fun v h' hr => by obtain ⟨⟨f', rfl⟩, rfl⟩ := hr; exact k f') fun fu => c_newG (ι := Bool × Bool × Bool) (fun p => .tup [encW (runM w (untilM l t)).1 p.1 p.2.1 p.2.2, I (runM w (untilM l t)).2.1, I (runM w (untilM l t)).2.2]) (fun _ => []) rfl rfl (fun X r Q ds k => o_callN Z Z EntC.out K (run_spec w (untilM l t) (by omega) f1 f2 f3 fu) fun v h' hr => by obtain ⟨rfl, g1, g2, g3, rfl⟩ := hr; exact k (g1, g2, g3)) fun pr => C Z Z (fun jj => G Z K jj)<|C Z Z (fun jj => o_extract Z Z K jj)<|C Z Z (fun jj => o_extract Z Z K jj) ?_
  refine C Z Z (fun jj => o_extract Z Z K jj)<|c_alc Z fun x14 => ?_
  refine c_sto (.cons _ (.cons_cons _ (.cons_cons _ (List.nil_sublist _)))) rfl rfl (fun _ _ _ _ jj => o_store 0 Z Z Z Z Z Z jj)<|C Z Z (fun jj => S Z K jj)<|C Z Z (fun jj => S Z K jj)<|c_nil<|h_seq<|H<|O 0 Z Z Z Z K ?_
  refine o_store 1 Z Z Z Z Z Z<|S Z K<|o_nil<|h_ret ?_
  have hq : atMW w l t = ((runM w (untilM l t)).1, 0) := by unfold atMW possM; rw [if_pos (by simp_all)]
  exact retG [] (.cons (resC 1 rfl rfl rfl) (.cons (resT rfl) .nil)) (List.nil_sublist _) ⟨_, rfl, rfl, pr.1, pr.2.1, pr.2.2, by rw [hq]; rfl⟩

end Go.Proofs.YtnoicbajhlpndaaGreat
/- Events that are possible: what Run and At answer. -/
namespace Go.Proofs.YtnoicbajhlpndaaGreat
open Go Go.RowKit Go.Shelf Hp
set_option maxRecDepth 10000
set_option maxHeartbeats 1000000
set_option linter.unusedVariables false
set_option linter.unusedSimpArgs false
attribute [local irreducible] WP WPs FnX IterX YdX RetP PanP Ch Back Join
theorem atF_spec (w : Wd) (l : List Ev) (t : Int) (hlen : l.length ≤ 1000000000) (f1 f2 f3 f : Bool) : Fn1 Tryz.prog 24 [encW w f1 f2 f3, V (l.map encV) f, I t] (.tup [encW (atMW w l t).1 false false false, I (atMW w l t).2]) := by
  intro X
  have hs := at_spec' w l t hlen f1 f2 f3 f X
  unfold FnX at hs ⊢
  intro w0 vals hh ha
  refine (hs w0 vals hh ha).mono fun e' w' ⟨E, h', ⟨r, hE, hr0, u1, u2, u3, hr1⟩, hr, hh', hx⟩ => ?_
  subst hE; subst hr0; subst hr1
  cases hr with
  | ret hr => exact ⟨_, [], ⟨_, rfl, rfl, rfl⟩, .ret (weakT hr), hh', hx⟩
/-! ### levels -/
end Go.Proofs.YtnoicbajhlpndaaGreat
