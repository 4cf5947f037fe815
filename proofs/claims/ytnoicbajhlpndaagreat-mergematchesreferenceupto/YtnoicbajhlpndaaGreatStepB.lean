/- The walk of the reference's outside. -/
import Derived.Test.YtnoicbajhlpndaaGreatStepA
import Derived.Test.YtnoicbajhlpndaaGreatWorldB
namespace Go.Proofs.YtnoicbajhlpndaaGreat
open Go Go.RowKit Go.Shelf Hp
set_option maxRecDepth 10000
set_option maxHeartbeats 1000000
set_option linter.unusedVariables false
set_option linter.unusedSimpArgs false
attribute [local irreducible] WP WPs FnX IterX YdX RetP PanP Ch Back Join
abbrev e4O (f t : Int) (z : Blk) : List Int := [z.f, max z.f (min f z.t), max z.f (min t z.t), z.t]
/-- The pieces of a block, one after the other. -/
def pcO (a b c f t : Int) (z : Blk) (q : Nat) : Int × Int × Int := ((e4O f t z).getD q 0, (e4O f t z).getD (q + 1) 0, if z.c = a then (if q = 1 then b else c) else z.c)
def inO (a b c f t : Int) (out : List Blk) (z : Blk) : Nat → List Blk
  | 0 => out
  | q + 1 => addO (inO a b c f t out z q) (pcO a b c f t z q)
theorem inO3 (a b c f t : Int) (out : List Blk) (z : Blk) : inO a b c f t out z 3 = stepO a b c f t out z := rfl
def outA (l : List Blk) (a b c f t : Int) (i : Nat) : List Blk := (l.take i).foldl (stepO a b c f t) []
theorem outA_succ {l : List Blk} {a b c f t : Int} {i : Nat} (h : i < l.length) : outA l a b c f t (i + 1) = stepO a b c f t (outA l a b c f t i) (l.getD i dB) := by
  have e : l.take (i + 1) = l.take i ++ [l.getD i dB] := by rw [List.take_add_one, List.getElem?_eq_getElem h]; simp [h]
  simp only [outA, e, List.foldl_append]; rfl
theorem outA_all (l : List Blk) (a b c f t : Int) : outA l a b c f t l.length = outsideM l a b c f t := by simp only [outA, List.take_length]; rfl
theorem addO_len (out : List Blk) (p : Int × Int × Int) : (addO out p).length ≤ out.length + 1 := by
  unfold addO; split
  · omega
  · exact addR_len _ _ _ _
theorem inO_len (a b c f t : Int) (out : List Blk) (z : Blk) : ∀ q, (inO a b c f t out z q).length ≤ out.length + q
  | 0 => Nat.le_refl _
  | q + 1 => by have h1 := inO_len a b c f t out z q; have h2 := addO_len (inO a b c f t out z q) (pcO a b c f t z q); simp only [inO]; omega
theorem outA_len (l : List Blk) (a b c f t : Int) : ∀ i, (outA l a b c f t i).length ≤ 3 * i
  | 0 => by simp [outA]
  | i + 1 => by
    have ih := outA_len l a b c f t i
    by_cases h : i < l.length
    · rw [outA_succ h, ← inO3]; have := inO_len a b c f t (outA l a b c f t i) (l.getD i dB) 3; omega
    · have : outA l a b c f t (i + 1) = outA l a b c f t i := by simp only [outA]; rw [List.take_of_length_le (by omega), List.take_of_length_le (by omega)]
      rw [this]; omega
theorem outsideM_len (l : List Blk) (a b c f t : Int) : (outsideM l a b c f t).length ≤ 3 * l.length := by rw [← outA_all]; exact outA_len _ _ _ _ _ _ _
theorem pc_pos {a b c f t : Int} {z : Blk} {q : Nat} (hz : 0 ≤ z.c) (hb : 0 ≤ b) (hc : 0 ≤ c) : ¬ (pcO a b c f t z q).2.2 < 0 := by
  simp only [pcO]; (repeat' split) <;> omega

theorem outside_walk (l : List Blk) (hlen : l.length ≤ 100000000) (fl : Bool) (a b c f t : Int) (hcar : ∀ z ∈ l, 0 ≤ z.c ∧ z.c ≤ 7) (hb0 : 0 ≤ b) (hc0 : 0 ≤ c) : Fn1 Tryz.prog 66 [V (l.map encB) fl, I a, I b, I c, .agg [I f, I t]] (V ((outsideM l a b c f t).map encB) (outsideM l a b c f t).isEmpty) := by
 refine fnE_intro (N := 155) Tryz.func66 rfl rfl rfl ?_
 intro X
 refine h_seq<|H<|o_box Z Z K fun x1 => S Z K<|o_nil<|h_seq<|H<|S Z K<|o_nil<|h_seq<|h_seq<|H ?_
 refine S Z K<|o_nil<|h_block<|h_famS (ι := (CrI (outA l a b c f t) (l.length + 1)) ⊕ (CrJ (outA l a b c f t) (l.length + 1))) (fun i => match i with | .inl i => [(0, V (l.map encB) fl), (1, I a), (2, I b), (3, I c), (9, .ptr x1 0), (11, V [] true), (12, I (i.i : Nat))] | .inr i => [(0, V (l.map encB) fl), (1, I a), (2, I b), (3, I c), (9, .ptr x1 0), (11, .os i.ob 3 0 i.len i.c), (12, I (i.i : Nat))]) (fun i => match i with | .inl i => (x1, .box 39 [I f, I t]) :: [] | .inr i => (i.ob, .arr 116 3 i.es i.c) :: (x1, .box 39 [I f, I t]) :: []) (fun i => match i with | .inl i => l.length - i.i | .inr i => l.length - i.i) (.inl ⟨0, Nat.zero_le _, rfl⟩) (.cons_cons _ (.refl _)) (subT.cons Z (subT.cons Z (subT.cons Z (subT.cons Z (subT.cons Z (subT.cons Z (subT.cons Z subT.nil))))))) ?_
 rintro (⟨u, hi, ho⟩ | ⟨u, ob, c', es, len, hi, he, hl, hne, hc'⟩)
 ·
  dsimp only
  by_cases hlt : u < l.length
  have hol := outA_len l a b c f t u
  ·
   have hzc := hcar _ (show (l.getD u dB) ∈ l by rw [List.getD_eq_getElem?_getD, List.getElem?_eq_getElem hlt]; exact List.getElem_mem hlt)
   refine h_seq<|h_seq<|H<|G Z K<|G Z K<|o_len Z K<|o_cmp Z Z Z K<|o_nil<|h_condt Z (by simp; omega) ?_
   refine h_skip<|h_seq<|h_block<|h_seq<|h_draw _ (List.nil_sublist _) [(0, .flo), (1, .flo), (2, .flo), (3, .flo), (4, .flo), (5, .val), (6, .flo), (7, .flo), (8, .flo), (9, .flo), (10, .flo), (11, .val), (12, .flo), (13, .val), (14, .flo), (15, .flo), (16, .flo), (17, .flo), (18, .flo), (19, .val), (20, .flo), (21, .flo), (22, .flo), (23, .flo), (24, .flo), (25, .flo), (26, .flo), (27, .val), (28, .flo), (29, .val), (30, .flo), (31, .flo), (32, .flo), (33, .flo), (34, .flo), (35, .val), (36, .flo), (37, .flo), (38, .flo), (39, .flo), (40, .flo), (41, .flo), (42, .flo), (43, .val), (44, .flo), (45, .flo)] mixed (by kernel_rfl)<|C Z Z (fun jj => G Z K jj)<|C Z Z (fun jj => G Z K jj)<|C Z Z (fun jj => o_idxv Z Z (by first | omega | (have := List.length_pos_iff.2 hne; omega)) (eltBk (by simpa using hlt)) rfl K jj) ?_
   refine C Z Z (fun jj => o_faddrv Z Z K rfl K jj)<|C Z Z (fun jj => o_faddrv Z Z K rfl K jj)<|c_val Z Z (fun _ _ _ _ jj => o_loadv Z Z K jj)<|C Z Z (fun jj => G Z K jj)<|C Z Z (fun jj => G Z K jj)<|C Z Z (fun jj => o_idxv Z Z (by first | omega | (have := List.length_pos_iff.2 hne; omega)) (eltBk (by simpa using hlt)) rfl K jj) ?_
   refine C Z Z (fun jj => o_faddrv Z Z K rfl K jj)<|C Z Z (fun jj => o_faddrv Z Z K rfl K jj)<|c_val Z Z (fun _ _ _ _ jj => o_loadv Z Z K jj)<|C Z Z (fun jj => F Z Z K K jj)<|c_val Z Z (fun _ _ _ _ jj => O 0 Z Z Z Z K jj)<|C Z Z (fun jj => G Z K jj)<|C Z Z (fun jj => G Z K jj)<|C Z Z (fun jj => o_idxv Z Z (by first | omega | (have := List.length_pos_iff.2 hne; omega)) (eltBk (by simpa using hlt)) rfl K jj) ?_
   refine C Z Z (fun jj => o_faddrv Z Z K rfl K jj)<|C Z Z (fun jj => o_faddrv Z Z K rfl K jj)<|c_val Z Z (fun _ _ _ _ jj => o_loadv Z Z K jj)<|C Z Z (fun jj => o_min Z Z K jj)<|C Z Z (fun jj => o_max Z Z K jj)<|C Z Z (fun jj => G Z K jj)<|C Z Z (fun jj => G Z K jj)<|C Z Z (fun jj => o_idxv Z Z (by first | omega | (have := List.length_pos_iff.2 hne; omega)) (eltBk (by simpa using hlt)) rfl K jj) ?_
   refine C Z Z (fun jj => o_faddrv Z Z K rfl K jj)<|C Z Z (fun jj => o_faddrv Z Z K rfl K jj)<|c_val Z Z (fun _ _ _ _ jj => o_loadv Z Z K jj)<|C Z Z (fun jj => F Z Z K K jj)<|c_val Z Z (fun _ _ _ _ jj => O 0 Z Z Z Z K jj)<|C Z Z (fun jj => G Z K jj)<|C Z Z (fun jj => G Z K jj)<|C Z Z (fun jj => o_idxv Z Z (by first | omega | (have := List.length_pos_iff.2 hne; omega)) (eltBk (by simpa using hlt)) rfl K jj) ?_
   refine C Z Z (fun jj => o_faddrv Z Z K rfl K jj)<|C Z Z (fun jj => o_faddrv Z Z K rfl K jj)<|c_val Z Z (fun _ _ _ _ jj => o_loadv Z Z K jj)<|C Z Z (fun jj => o_min Z Z K jj)<|C Z Z (fun jj => o_max Z Z K jj)<|C Z Z (fun jj => G Z K jj)<|C Z Z (fun jj => G Z K jj)<|C Z Z (fun jj => o_idxv Z Z (by first | omega | (have := List.length_pos_iff.2 hne; omega)) (eltBk (by simpa using hlt)) rfl K jj) ?_
   refine C Z Z (fun jj => o_faddrv Z Z K rfl K jj)<|C Z Z (fun jj => o_faddrv Z Z K rfl K jj)<|c_val Z Z (fun _ _ _ _ jj => o_loadv Z Z K jj)<|C Z Z (fun jj => o_buildSlicep Z (by rfl) (by rfl) (by rfl) (by rfl) K jj) ?_
   refine C Z Z (fun jj => S Z K jj)<|c_nil<|h_seq<|H<|S Z K<|o_nil<|h_block<|h_famS (ι := (CrI (inO a b c f t (outA l a b c f t u) (l.getD u dB)) 4) ⊕ (CrJ (inO a b c f t (outA l a b c f t u) (l.getD u dB)) 4)) (fun j => match j with | .inl j => [(0, V (l.map encB) fl), (1, I a), (2, I b), (3, I c), (9, .ptr x1 0), (11, V [] true), (12, I (u : Nat)), (13, V ((e4O f t (l.getD u dB)).map encI) true), (14, I (j.i : Nat))] | .inr j => [(0, V (l.map encB) fl), (1, I a), (2, I b), (3, I c), (9, .ptr x1 0), (11, .os j.ob 3 0 j.len j.c), (12, I (u : Nat)), (13, V ((e4O f t (l.getD u dB)).map encI) true), (14, I (j.i : Nat))]) (fun j => match j with | .inl j => (x1, .box 39 [I f, I t]) :: [] | .inr j => (j.ob, .arr 116 3 j.es j.c) :: (x1, .box 39 [I f, I t]) :: []) (fun j => match j with | .inl j => 3 - j.i | .inr j => 3 - j.i) (.inl ⟨0, by omega, ho⟩) (.cons_cons _ (.refl _)) (subT.cons Z (subT.cons Z (subT.cons Z (subT.cons Z (subT.cons Z (subT.cons Z (subT.cons Z (subT.cons Z (subT.cons Z subT.nil))))))))) ?_
   rintro (⟨q, hq4, ho⟩ | ⟨q, ob, c', es, len, hq4, he, hl, hne, hc'⟩)
   ·
    dsimp only
    by_cases hq : q < 3
    have hql := inO_len a b c f t (outA l a b c f t u) (l.getD u dB) q
    ·
     refine h_seq<|h_seq<|H<|G Z K<|o_cmp Z Z Z K<|o_nil<|h_condt Z (by simp; omega) ?_
     refine h_skip<|h_seq<|h_block<|h_seq<|h_draw _ (.cons_cons _ (List.nil_sublist _)) [(0, .flo), (1, .flo), (2, .flo), (3, .val), (4, .flo), (5, .flo), (6, .flo), (7, .flo), (8, .val), (9, .flo), (10, .flo), (11, .flo), (12, .flo), (13, .flo), (14, .val), (15, .flo), (16, .new), (17, .sto)] mixed (by kernel_rfl)<|C Z Z (fun jj => G Z K jj)<|C Z Z (fun jj => G Z K jj)<|C Z Z (fun jj => o_idxv Z Z (by first | omega | (have := List.length_pos_iff.2 hne; omega)) (eltIn (by show _ < 4; omega)) rfl K jj) ?_
     refine c_val Z Z (fun _ _ _ _ jj => o_loadv Z Z K jj)<|C Z Z (fun jj => G Z K jj)<|C Z Z (fun jj => G Z K jj)<|C Z Z (fun jj => o_add Z Z (by unfold in64; (try dsimp only); omega) K jj) ?_
     refine C Z Z (fun jj => o_idxv Z Z (by first | omega | (have := List.length_pos_iff.2 hne; omega)) (eltIn (by show _ < 4; omega)) rfl K jj) ?_
     refine c_val Z Z (fun _ _ _ _ jj => o_loadv Z Z K jj)<|C Z Z (fun jj => o_build Z Z K jj)<|C Z Z (fun jj => G Z K jj)<|C Z Z (fun jj => G Z K jj)<|C Z Z (fun jj => o_idxv Z Z (by first | omega | (have := List.length_pos_iff.2 hne; omega)) (eltBk (by simpa using hlt)) rfl K jj) ?_
     refine C Z Z (fun jj => o_faddrv Z Z K rfl K jj)<|c_val Z Z (fun _ _ _ _ jj => o_loadv Z Z K jj)<|C Z Z (fun jj => o_build Z Z K jj)<|c_new Z Z (fun _ _ _ _ jj => o_alloc K jj) fun x4 => ?_
     refine c_sto (.cons _ (.cons_cons _ (List.nil_sublist _))) rfl rfl (fun _ _ _ _ jj => o_store 0 Z Z Z Z Z Z jj)<|c_nil<|h_seq<|h_seq<|H<|F Z Z K K<|F Z Z K K<|O 0 Z Z Z Z K<|F Z Z K K<|F Z Z K K<|O 0 Z Z Z Z K<|o_cmp Z Z Z K ?_
     refine o_nil<|h_cond Z (fun c6 => ?_) (fun c6 => ?_)
     ·
      refine h_exit<|H<|G Z K<|o_add Z Z (by unfold in64; (try dsimp only); omega) K ?_
      refine S Z K<|o_nil ?_
      have hs : (inO a b c f t (outA l a b c f t u) (l.getD u dB)) (q + 1) = addO (inO a b c f t (outA l a b c f t u) (l.getD u dB) q) (pcO a b c f t (l.getD u dB) q) := rfl
      have hx : (pcO a b c f t (l.getD u dB) q).1 = (pcO a b c f t (l.getD u dB) q).2.1 := (by have h := c6; rw [decide_eq_true_eq] at h; exact h)
      have hq' : (inO a b c f t (outA l a b c f t u) (l.getD u dB)) (q + 1) = (inO a b c f t (outA l a b c f t u) (l.getD u dB) q) := by rw [hs]; unfold addO; rw [if_pos hx]
      refine back rfl (.inl ⟨q + 1, by omega, by rw [hq']; exact ho⟩) (by dsimp only; omega) (.cons _ (.cons_cons _ (.refl _))) (subT.cons Z (subT.cons Z (subT.cons Z (subT.cons Z (subT.cons Z (subT.cons Z (subT.cons Z (subT.cons Z (subT.cons Z subT.nil)))))))))
     ·
      refine h_skip<|h_seqK (ι := {x : Int // x = (pcO a b c f t (l.getD u dB) q).2.2}) (fun i => [(0, V (l.map encB) fl), (1, I a), (2, I b), (3, I c), (9, .ptr x1 0), (11, V [] true), (12, I (u : Nat)), (13, V ((e4O f t (l.getD u dB)).map encI) true), (14, I (q : Nat)), (15, .ptr x4 0), (94, B (decide ((e4O f t (l.getD u dB)).getD ((q : Nat) : Int).toNat 0 = (e4O f t (l.getD u dB)).getD ((q : Int) + 1).toNat 0)))]) (fun i => [(x4, .box 116 [I ((e4O f t (l.getD u dB)).getD ((q : Nat) : Int).toNat 0), I ((e4O f t (l.getD u dB)).getD ((q : Int) + 1).toNat 0), I i.1]), (x1, .box 39 [I f, I t])]) ?_ ?_
      ·
       refine h_seq<|H<|F Z Z K K<|O 0 Z Z Z Z K<|G Z K<|o_cmp Z Z Z K<|G Z K<|o_guard Z Z K (fun g8 => ?_) (fun g8 => ?_)
       ·
        have g8 : _ = true := g8
        refine G Z K<|W Z Z g8 K<|o_cmp Z Z Z K<|o_pickt Z g8 rfl K<|o_nil<|h_cond Z (fun c10 => ?_) (fun c10 => ?_)
        ·
         refine H<|G Z K<|F Z Z K K ?_
         exact o_store 0 Z Z Z Z Z Z<|o_nil<|join rfl (⟨b, by simp only [pcO]; first | (simp_all; done) | (simp_all; omega)⟩) (.refl _) (.cons_cons _ (.cons_cons _ (List.nil_sublist _))) (subT.cons Z (subT.cons Z (subT.cons Z (subT.cons Z (subT.cons Z (subT.cons Z (subT.cons Z (subT.cons Z (subT.cons Z (subT.cons Z (subT.cons Z subT.nil)))))))))))
        ·
         refine h_seq<|H<|F Z Z K K<|O 0 Z Z Z Z K<|G Z K<|o_cmp Z Z Z K<|o_nil<|h_cond Z (fun c12 => ?_) (fun c12 => ?_)
         ·
          refine H<|G Z K<|F Z Z K K ?_
          exact o_store 0 Z Z Z Z Z Z<|o_nil<|join rfl (⟨c, by simp only [pcO]; first | (simp_all; done) | (simp_all; omega)⟩) (.refl _) (.cons_cons _ (.cons_cons _ (List.nil_sublist _))) (subT.cons Z (subT.cons Z (subT.cons Z (subT.cons Z (subT.cons Z (subT.cons Z (subT.cons Z (subT.cons Z (subT.cons Z (subT.cons Z (subT.cons Z subT.nil)))))))))))
         ·
          exact h_skip<|join rfl (⟨(l.getD u dB).c, by simp only [pcO]; first | (simp_all; done) | (simp_all; omega)⟩) (.refl _) (.cons_cons _ (.cons_cons _ (List.nil_sublist _))) (subT.cons Z (subT.cons Z (subT.cons Z (subT.cons Z (subT.cons Z (subT.cons Z (subT.cons Z (subT.cons Z (subT.cons Z (subT.cons Z (subT.cons Z subT.nil)))))))))))
       ·
        have g8 : _ = false := g8
        refine U Z Z g8 K<|o_pickf Z g8 rfl K<|o_nil<|h_condf Z Z<|h_seq<|H<|F Z Z K K<|O 0 Z Z Z Z K<|G Z K<|o_cmp Z Z Z K<|o_nil<|h_cond Z (fun c14 => ?_) (fun c14 => ?_)
        ·
         refine H<|G Z K<|F Z Z K K ?_
         exact o_store 0 Z Z Z Z Z Z<|o_nil<|join rfl (⟨c, by simp only [pcO]; first | (simp_all; done) | (simp_all; omega)⟩) (.refl _) (.cons_cons _ (.cons_cons _ (List.nil_sublist _))) (subT.cons Z (subT.cons Z (subT.cons Z (subT.cons Z (subT.cons Z (subT.cons Z (subT.cons Z (subT.cons Z (subT.cons Z (subT.cons Z (subT.cons Z subT.nil)))))))))))
        ·
         exact h_skip<|join rfl (⟨(l.getD u dB).c, by simp only [pcO]; first | (simp_all; done) | (simp_all; omega)⟩) (.refl _) (.cons_cons _ (.cons_cons _ (List.nil_sublist _))) (subT.cons Z (subT.cons Z (subT.cons Z (subT.cons Z (subT.cons Z (subT.cons Z (subT.cons Z (subT.cons Z (subT.cons Z (subT.cons Z (subT.cons Z subT.nil)))))))))))
      ·
       rintro ⟨x, hxx⟩
       dsimp only
       refine h_seq<|H<|G Z K<|o_len Z K<|S Z K<|o_nil<|h_seq<|h_draw _ (List.nil_sublist _) [(0, .flo), (1, .flo), (2, .flo), (3, .flo), (4, .flo), (5, .flo), (6, .flo), (7, .flo), (8, .flo), (9, .flo), (10, .val), (11, .flo), (12, .flo), (13, .val), (14, .flo), (15, .flo), (16, .flo), (17, .flo), (18, .flo), (19, .flo), (20, .flo), (21, .flo), (22, .flo), (23, .val), (24, .flo), (25, .val), (26, .flo), (27, .flo)] mixed (by kernel_rfl)<|C Z Z (fun jj => G Z K jj)<|C Z Z (fun jj => o_cmp Z Z Z K jj)<|C Z Z (fun jj => G Z K jj)<|C Z Z (fun jj => U Z Z K K jj) ?_
       refine C Z Z (fun jj => U Z Z K K jj)<|C Z Z (fun jj => U Z Z K K jj)<|C Z Z (fun jj => U Z Z K K jj)<|C Z Z (fun jj => U Z Z K K jj)<|C Z Z (fun jj => U Z Z K K jj)<|C Z Z (fun jj => U Z Z K K jj)<|c_val Z Z (fun _ _ _ _ jj => U Z Z K K jj)<|C Z Z (fun jj => U Z Z K K jj)<|C Z Z (fun jj => U Z Z K K jj)<|c_val Z Z (fun _ _ _ _ jj => U Z Z K K jj)<|C Z Z (fun jj => U Z Z K K jj)<|C Z Z (fun jj => o_pickf Z K rfl K jj) ?_
       refine C Z Z (fun jj => G Z K jj)<|C Z Z (fun jj => U Z Z Z K jj)<|C Z Z (fun jj => U Z Z Z K jj)<|C Z Z (fun jj => U Z Z Z K jj)<|C Z Z (fun jj => U Z Z Z K jj)<|C Z Z (fun jj => U Z Z Z K jj)<|C Z Z (fun jj => U Z Z Z K jj)<|c_val Z Z (fun _ _ _ _ jj => U Z Z Z K jj)<|C Z Z (fun jj => U Z Z Z K jj)<|c_val Z Z (fun _ _ _ _ jj => U Z Z Z K jj)<|C Z Z (fun jj => U Z Z Z K jj)<|C Z Z (fun jj => o_pickf Z Z Z K jj) ?_
       refine c_nil<|h_condf Z Z<|H<|G Z K<|O 0 Z Z Z Z K<|o_buildSlicep Z (by rfl) (by rfl) (by rfl) (by rfl) K ?_
       refine o_appendv Z Z (Src.v _ _) (okB_one rfl) (by simp [chunk]) (by rw [chunk_length]; omega) (by first | (simp only [List.length_map, chunk_length, List.length_cons, List.length_nil]; omega) | (simp [chunk_length]; try omega)) K fun x16 c17 hc18 => ?_
       refine S Z K<|o_nil<|H<|G Z K<|o_add Z Z (by unfold in64; (try dsimp only); omega) K ?_
       refine S Z K<|o_nil ?_
       have hs : (inO a b c f t (outA l a b c f t u) (l.getD u dB)) (q + 1) = addO (inO a b c f t (outA l a b c f t u) (l.getD u dB) q) (pcO a b c f t (l.getD u dB) q) := rfl
       have hx : ¬ (pcO a b c f t (l.getD u dB) q).1 = (pcO a b c f t (l.getD u dB) q).2.1 := (by have h := c6; rw [decide_eq_false_iff_not] at h; exact h)
       have hs' : (inO a b c f t (outA l a b c f t u) (l.getD u dB)) (q + 1) = addR (inO a b c f t (outA l a b c f t u) (l.getD u dB) q) (pcO a b c f t (l.getD u dB) q).1 (pcO a b c f t (l.getD u dB) q).2.1 (pcO a b c f t (l.getD u dB) q).2.2 := by rw [hs]; unfold addO; rw [if_neg hx]
       have hpp : ¬ (pcO a b c f t (l.getD u dB) q).2.2 < 0 := pc_pos hzc.1 hb0 hc0
       have hq' : (inO a b c f t (outA l a b c f t u) (l.getD u dB)) (q + 1) = [⟨(pcO a b c f t (l.getD u dB) q).1, (pcO a b c f t (l.getD u dB) q).2.1, x⟩] := by rw [hs', ho, hxx]; exact addR_nil hpp
       refine back rfl (.inr ⟨q + 1, x16, c17, _, _, by omega, (by rw [hq']; rfl), (by rw [hq']; simp [chunk_length]), by rw [hq']; simp, (by simpa [chunk_length] using hc18)⟩) (by dsimp only; omega) (.cons_cons _ (.cons _ (.cons_cons _ (.refl _)))) (subT.cons Z (subT.cons Z (subT.cons Z (subT.cons Z (subT.cons Z (subT.cons Z (subT.cons Z (subT.cons Z (subT.cons Z subT.nil)))))))))
    ·
     obtain rfl : q = 3 := by omega
     refine h_seq<|h_seq<|H<|G Z K<|o_cmp Z Z Z K<|o_nil<|h_condf Z (by simp <;> omega) ?_
     refine h_exit<|H<|G Z K<|o_add Z Z (by unfold in64; (try dsimp only); omega) K ?_
     refine S Z K<|o_nil ?_
     have hs : (outA l a b c f t) (u + 1) = (inO a b c f t (outA l a b c f t u) (l.getD u dB)) 3 := (outA_succ hlt).trans (inO3 _ _ _ _ _ _ _).symm
     refine back rfl (.inl ⟨u + 1, by omega, by rw [hs]; exact ho⟩) (by dsimp only; omega) (.cons_cons _ (.refl _)) (subT.cons Z (subT.cons Z (subT.cons Z (subT.cons Z (subT.cons Z (subT.cons Z (subT.cons Z subT.nil)))))))
   ·
    dsimp only
    subst he; subst hl
    by_cases hq : q < 3
    have hql := inO_len a b c f t (outA l a b c f t u) (l.getD u dB) q
    ·
     refine h_seq<|h_seq<|H<|G Z K<|o_cmp Z Z Z K<|o_nil<|h_condt Z (by simp; omega) ?_
     refine h_skip<|h_seq<|h_block<|h_seq<|h_draw _ (.cons _ (.cons_cons _ (List.nil_sublist _))) [(0, .flo), (1, .flo), (2, .flo), (3, .val), (4, .flo), (5, .flo), (6, .flo), (7, .flo), (8, .val), (9, .flo), (10, .flo), (11, .flo), (12, .flo), (13, .flo), (14, .val), (15, .flo), (16, .new), (17, .sto)] mixed (by kernel_rfl)<|C Z Z (fun jj => G Z K jj)<|C Z Z (fun jj => G Z K jj)<|C Z Z (fun jj => o_idxv Z Z (by first | omega | (have := List.length_pos_iff.2 hne; omega)) (eltIn (by show _ < 4; omega)) rfl K jj) ?_
     refine c_val Z Z (fun _ _ _ _ jj => o_loadv Z Z K jj)<|C Z Z (fun jj => G Z K jj)<|C Z Z (fun jj => G Z K jj)<|C Z Z (fun jj => o_add Z Z (by unfold in64; (try dsimp only); omega) K jj) ?_
     refine C Z Z (fun jj => o_idxv Z Z (by first | omega | (have := List.length_pos_iff.2 hne; omega)) (eltIn (by show _ < 4; omega)) rfl K jj) ?_
     refine c_val Z Z (fun _ _ _ _ jj => o_loadv Z Z K jj)<|C Z Z (fun jj => o_build Z Z K jj)<|C Z Z (fun jj => G Z K jj)<|C Z Z (fun jj => G Z K jj)<|C Z Z (fun jj => o_idxv Z Z (by first | omega | (have := List.length_pos_iff.2 hne; omega)) (eltBk (by simpa using hlt)) rfl K jj) ?_
     refine C Z Z (fun jj => o_faddrv Z Z K rfl K jj)<|c_val Z Z (fun _ _ _ _ jj => o_loadv Z Z K jj)<|C Z Z (fun jj => o_build Z Z K jj)<|c_new Z Z (fun _ _ _ _ jj => o_alloc K jj) fun x21 => ?_
     refine c_sto (.cons _ (.cons _ (.cons_cons _ (List.nil_sublist _)))) rfl rfl (fun _ _ _ _ jj => o_store 0 Z Z Z Z Z Z jj)<|c_nil<|h_seq<|h_seq<|H<|F Z Z K K<|F Z Z K K<|O 0 Z Z Z Z K<|F Z Z K K<|F Z Z K K<|O 0 Z Z Z Z K<|o_cmp Z Z Z K ?_
     refine o_nil<|h_cond Z (fun c23 => ?_) (fun c23 => ?_)
     ·
      refine h_exit<|H<|G Z K<|o_add Z Z (by unfold in64; (try dsimp only); omega) K ?_
      refine S Z K<|o_nil ?_
      have hs : (inO a b c f t (outA l a b c f t u) (l.getD u dB)) (q + 1) = addO (inO a b c f t (outA l a b c f t u) (l.getD u dB) q) (pcO a b c f t (l.getD u dB) q) := rfl
      have hx : (pcO a b c f t (l.getD u dB) q).1 = (pcO a b c f t (l.getD u dB) q).2.1 := (by have h := c23; rw [decide_eq_true_eq] at h; exact h)
      have hq' : (inO a b c f t (outA l a b c f t u) (l.getD u dB)) (q + 1) = (inO a b c f t (outA l a b c f t u) (l.getD u dB) q) := by rw [hs]; unfold addO; rw [if_pos hx]
      refine back rfl (.inr ⟨q + 1, ob, c', _, _, by omega, by rw [hq'], by rw [hq'], by rw [hq']; exact hne, hc'⟩) (by dsimp only; omega) (.cons _ (.cons_cons _ (.cons_cons _ (.refl _)))) (subT.cons Z (subT.cons Z (subT.cons Z (subT.cons Z (subT.cons Z (subT.cons Z (subT.cons Z (subT.cons Z (subT.cons Z subT.nil)))))))))
     ·
      refine h_skip<|h_seqK (ι := {x : Int // x = (pcO a b c f t (l.getD u dB) q).2.2}) (fun i => [(0, V (l.map encB) fl), (1, I a), (2, I b), (3, I c), (9, .ptr x1 0), (11, .os ob 3 0 (inO a b c f t (outA l a b c f t u) (l.getD u dB) q).length c'), (12, I (u : Nat)), (13, V ((e4O f t (l.getD u dB)).map encI) true), (14, I (q : Nat)), (15, .ptr x21 0), (94, B (decide ((e4O f t (l.getD u dB)).getD ((q : Nat) : Int).toNat 0 = (e4O f t (l.getD u dB)).getD ((q : Int) + 1).toNat 0)))]) (fun i => [(x21, .box 116 [I ((e4O f t (l.getD u dB)).getD ((q : Nat) : Int).toNat 0), I ((e4O f t (l.getD u dB)).getD ((q : Int) + 1).toNat 0), I i.1]), (ob, .arr 116 3 ((inO a b c f t (outA l a b c f t u) (l.getD u dB) q).map encB) c'), (x1, .box 39 [I f, I t])]) ?_ ?_
      ·
       refine h_seq<|H<|F Z Z K K<|O 0 Z Z Z Z K<|G Z K<|o_cmp Z Z Z K<|G Z K<|o_guard Z Z K (fun g25 => ?_) (fun g25 => ?_)
       ·
        have g25 : _ = true := g25
        refine G Z K<|W Z Z g25 K<|o_cmp Z Z Z K<|o_pickt Z g25 rfl K<|o_nil<|h_cond Z (fun c27 => ?_) (fun c27 => ?_)
        ·
         refine H<|G Z K<|F Z Z K K ?_
         exact o_store 0 Z Z Z Z Z Z<|o_nil<|join rfl (⟨b, by simp only [pcO]; first | (simp_all; done) | (simp_all; omega)⟩) (.refl _) (.cons_cons _ (.cons_cons _ (.cons_cons _ (List.nil_sublist _)))) (subT.cons Z (subT.cons Z (subT.cons Z (subT.cons Z (subT.cons Z (subT.cons Z (subT.cons Z (subT.cons Z (subT.cons Z (subT.cons Z (subT.cons Z subT.nil)))))))))))
        ·
         refine h_seq<|H<|F Z Z K K<|O 0 Z Z Z Z K<|G Z K<|o_cmp Z Z Z K<|o_nil<|h_cond Z (fun c29 => ?_) (fun c29 => ?_)
         ·
          refine H<|G Z K<|F Z Z K K ?_
          exact o_store 0 Z Z Z Z Z Z<|o_nil<|join rfl (⟨c, by simp only [pcO]; first | (simp_all; done) | (simp_all; omega)⟩) (.refl _) (.cons_cons _ (.cons_cons _ (.cons_cons _ (List.nil_sublist _)))) (subT.cons Z (subT.cons Z (subT.cons Z (subT.cons Z (subT.cons Z (subT.cons Z (subT.cons Z (subT.cons Z (subT.cons Z (subT.cons Z (subT.cons Z subT.nil)))))))))))
         ·
          exact h_skip<|join rfl (⟨(l.getD u dB).c, by simp only [pcO]; first | (simp_all; done) | (simp_all; omega)⟩) (.refl _) (.cons_cons _ (.cons_cons _ (.cons_cons _ (List.nil_sublist _)))) (subT.cons Z (subT.cons Z (subT.cons Z (subT.cons Z (subT.cons Z (subT.cons Z (subT.cons Z (subT.cons Z (subT.cons Z (subT.cons Z (subT.cons Z subT.nil)))))))))))
       ·
        have g25 : _ = false := g25
        refine U Z Z g25 K<|o_pickf Z g25 rfl K<|o_nil<|h_condf Z Z<|h_seq<|H<|F Z Z K K<|O 0 Z Z Z Z K<|G Z K<|o_cmp Z Z Z K<|o_nil<|h_cond Z (fun c31 => ?_) (fun c31 => ?_)
        ·
         refine H<|G Z K<|F Z Z K K ?_
         exact o_store 0 Z Z Z Z Z Z<|o_nil<|join rfl (⟨c, by simp only [pcO]; first | (simp_all; done) | (simp_all; omega)⟩) (.refl _) (.cons_cons _ (.cons_cons _ (.cons_cons _ (List.nil_sublist _)))) (subT.cons Z (subT.cons Z (subT.cons Z (subT.cons Z (subT.cons Z (subT.cons Z (subT.cons Z (subT.cons Z (subT.cons Z (subT.cons Z (subT.cons Z subT.nil)))))))))))
        ·
         exact h_skip<|join rfl (⟨(l.getD u dB).c, by simp only [pcO]; first | (simp_all; done) | (simp_all; omega)⟩) (.refl _) (.cons_cons _ (.cons_cons _ (.cons_cons _ (List.nil_sublist _)))) (subT.cons Z (subT.cons Z (subT.cons Z (subT.cons Z (subT.cons Z (subT.cons Z (subT.cons Z (subT.cons Z (subT.cons Z (subT.cons Z (subT.cons Z subT.nil)))))))))))
      ·
       rintro ⟨x, hxx⟩
       dsimp only
       refine h_seq<|H<|G Z K<|o_leno Z K<|S Z K<|o_nil<|h_seq<|h_draw _ (List.nil_sublist _) [(0, .flo), (1, .flo), (2, .flo), (3, .flo), (4, .flo), (5, .flo), (6, .flo), (7, .flo), (8, .flo), (9, .flo), (10, .val), (11, .flo), (12, .flo), (13, .val), (14, .flo), (15, .flo), (16, .flo), (17, .flo), (18, .flo), (19, .flo), (20, .flo), (21, .flo), (22, .flo), (23, .val), (24, .flo), (25, .val), (26, .flo), (27, .flo)] mixed (by kernel_rfl)<|C Z Z (fun jj => G Z K jj)<|C Z Z (fun jj => o_cmp Z Z Z K jj)<|C Z Z (fun jj => G Z K jj)<|C Z Z (fun jj => W Z Z (by have := List.length_pos_iff.2 hne; rw [decide_eq_true_eq]; omega) K (G Z K jj)) ?_
       refine C Z Z (fun jj => W Z Z (by have := List.length_pos_iff.2 hne; rw [decide_eq_true_eq]; omega) K (G Z K jj)) ?_
       refine C Z Z (fun jj => W Z Z (by have := List.length_pos_iff.2 hne; rw [decide_eq_true_eq]; omega) K (o_sub Z Z (by unfold in64; (try dsimp only); omega) K jj)) ?_
       refine C Z Z (fun jj => W Z Z (by have := List.length_pos_iff.2 hne; rw [decide_eq_true_eq]; omega) K (o_max Z Z K jj)) ?_
       refine C Z Z (fun jj => W Z Z (by have := List.length_pos_iff.2 hne; rw [decide_eq_true_eq]; omega) K (o_idxo Z Z (by first | omega | (have := List.length_pos_iff.2 hne; omega)) (by have := List.length_pos_iff.2 hne; omega) K jj)) ?_
       refine C Z Z (fun jj => W Z Z (by have := List.length_pos_iff.2 hne; rw [decide_eq_true_eq]; omega) K (o_faddre Z Z K K jj)) ?_
       refine C Z Z (fun jj => W Z Z (by have := List.length_pos_iff.2 hne; rw [decide_eq_true_eq]; omega) K (o_faddre Z Z K K jj)) ?_
       refine c_val Z Z (fun _ _ _ _ jj => W Z Z (by have := List.length_pos_iff.2 hne; rw [decide_eq_true_eq]; omega) K (o_loade 1 Z Z (lastM hne) rfl rfl K jj)) ?_
       refine C Z Z (fun jj => W Z Z (by have := List.length_pos_iff.2 hne; rw [decide_eq_true_eq]; omega) K (F Z Z K K jj)) ?_
       refine C Z Z (fun jj => W Z Z (by have := List.length_pos_iff.2 hne; rw [decide_eq_true_eq]; omega) K (F Z Z K K jj)) ?_
       refine c_val Z Z (fun _ _ _ _ jj => W Z Z (by have := List.length_pos_iff.2 hne; rw [decide_eq_true_eq]; omega) K (O 0 Z Z Z Z K jj)) ?_
       refine C Z Z (fun jj => W Z Z (by have := List.length_pos_iff.2 hne; rw [decide_eq_true_eq]; omega) K (o_cmp Z Z Z K jj)) ?_
       refine C Z Z (fun jj => o_pickt Z (by have := List.length_pos_iff.2 hne; rw [decide_eq_true_eq]; omega) rfl K jj) ?_
       refine C Z Z (fun jj => G Z K jj)<|c_split (t := 129) rfl (fun g34 => ?_) (fun g34 => ?_)
       ·
        have g34 : _ = true := g34
        refine C Z Z (fun jj => W Z Z g34 K (G Z K jj))<|C Z Z (fun jj => W Z Z g34 K (G Z K jj))<|C Z Z (fun jj => W Z Z g34 K (o_sub Z Z (by unfold in64; (try dsimp only); omega) K jj)) ?_
        refine C Z Z (fun jj => W Z Z g34 K (o_max Z Z K jj))<|C Z Z (fun jj => W Z Z g34 K (o_idxo Z Z (by first | omega | (have := List.length_pos_iff.2 hne; omega)) (by have := List.length_pos_iff.2 hne; omega) K jj)) ?_
        refine C Z Z (fun jj => W Z Z g34 K (o_faddre Z Z K K jj))<|c_val Z Z (fun _ _ _ _ jj => W Z Z g34 K (o_loade 1 Z Z (lastM hne) rfl rfl K jj))<|C Z Z (fun jj => W Z Z g34 K (F Z Z K K jj))<|c_val Z Z (fun _ _ _ _ jj => W Z Z g34 K (O 0 Z Z Z Z K jj))<|C Z Z (fun jj => W Z Z g34 K (o_cmp Z Z Z K jj))<|C Z Z (fun jj => o_pickt Z g34 rfl K jj)<|c_nil<|h_cond Z (fun c36 => ?_) (fun c36 => ?_)
        ·
         refine H<|G Z K<|G Z K<|o_sub Z Z (by unfold in64; (try dsimp only); omega) K ?_
         refine F Z Z K K<|F Z Z K K<|O 0 Z Z Z Z K<|o_idxo Z Z (by first | omega | (have := List.length_pos_iff.2 hne; omega)) (by have := List.length_pos_iff.2 hne; omega) K ?_
         refine o_faddre Z Z K K<|o_faddre Z Z K K ?_
         refine o_storee 1 Z Z (lastE hne) rfl rfl rfl rfl (by simp [encB]) ?_
         refine o_nil<|H<|G Z K<|o_add Z Z (by unfold in64; (try dsimp only); omega) K ?_
         refine S Z K<|o_nil ?_
         have hs : (inO a b c f t (outA l a b c f t u) (l.getD u dB)) (q + 1) = addO (inO a b c f t (outA l a b c f t u) (l.getD u dB) q) (pcO a b c f t (l.getD u dB) q) := rfl
         have hx : ¬ (pcO a b c f t (l.getD u dB) q).1 = (pcO a b c f t (l.getD u dB) q).2.1 := (by have h := c23; rw [decide_eq_false_iff_not] at h; exact h)
         have hs' : (inO a b c f t (outA l a b c f t u) (l.getD u dB)) (q + 1) = addR (inO a b c f t (outA l a b c f t u) (l.getD u dB) q) (pcO a b c f t (l.getD u dB) q).1 (pcO a b c f t (l.getD u dB) q).2.1 (pcO a b c f t (l.getD u dB) q).2.2 := by rw [hs]; unfold addO; rw [if_neg hx]
         have hpp : ¬ (pcO a b c f t (l.getD u dB) q).2.2 < 0 := pc_pos hzc.1 hb0 hc0
         have hd : ((inO a b c f t (outA l a b c f t u) (l.getD u dB) q).getLast hne).t = (pcO a b c f t (l.getD u dB) q).1 ∧ ((inO a b c f t (outA l a b c f t u) (l.getD u dB) q).getLast hne).c = (pcO a b c f t (l.getD u dB) q).2.2 := by rw [← hxx]; simp only [pcO]; simp_all
         have hq' : (inO a b c f t (outA l a b c f t u) (l.getD u dB)) (q + 1) = (inO a b c f t (outA l a b c f t u) (l.getD u dB) q).dropLast ++ [⟨((inO a b c f t (outA l a b c f t u) (l.getD u dB) q).getLast hne).f, (pcO a b c f t (l.getD u dB) q).2.1, ((inO a b c f t (outA l a b c f t u) (l.getD u dB) q).getLast hne).c⟩] := by rw [hs']; exact addR_long hpp hne hd
         refine back rfl (.inr ⟨q + 1, ob, c', _, _, by omega, (by rw [hq']; exact set_last hne ⟨_, (pcO a b c f t (l.getD u dB) q).2.1, _⟩), (by rw [hq', List.length_append, List.length_dropLast]; have := List.length_pos_iff.2 hne; simp only [List.length_cons, List.length_nil]; omega), by rw [hq']; simp, hc'⟩) (by dsimp only; omega) (.cons _ (.cons_cons _ (.cons_cons _ (.refl _)))) (subT.cons Z (subT.cons Z (subT.cons Z (subT.cons Z (subT.cons Z (subT.cons Z (subT.cons Z (subT.cons Z (subT.cons Z subT.nil)))))))))
        ·
         refine H<|G Z K<|O 0 Z Z Z Z K<|o_buildSlicep Z (by rfl) (by rfl) (by rfl) (by rfl) K ?_
         refine o_append 1 Z Z Z (Src.v _ _) (okB_one rfl) (by simp) (by first | (simp only [List.length_map, chunk_length, List.length_cons, List.length_nil]; omega) | (simp [chunk_length]; try omega)) K fun x37 c38 hc39 => ?_
         refine S Z K<|o_nil<|H<|G Z K<|o_add Z Z (by unfold in64; (try dsimp only); omega) K ?_
         refine S Z K<|o_nil ?_
         have hs : (inO a b c f t (outA l a b c f t u) (l.getD u dB)) (q + 1) = addO (inO a b c f t (outA l a b c f t u) (l.getD u dB) q) (pcO a b c f t (l.getD u dB) q) := rfl
         have hx : ¬ (pcO a b c f t (l.getD u dB) q).1 = (pcO a b c f t (l.getD u dB) q).2.1 := (by have h := c23; rw [decide_eq_false_iff_not] at h; exact h)
         have hs' : (inO a b c f t (outA l a b c f t u) (l.getD u dB)) (q + 1) = addR (inO a b c f t (outA l a b c f t u) (l.getD u dB) q) (pcO a b c f t (l.getD u dB) q).1 (pcO a b c f t (l.getD u dB) q).2.1 (pcO a b c f t (l.getD u dB) q).2.2 := by rw [hs]; unfold addO; rw [if_neg hx]
         have hpp : ¬ (pcO a b c f t (l.getD u dB) q).2.2 < 0 := pc_pos hzc.1 hb0 hc0
         have hd : ¬ (((inO a b c f t (outA l a b c f t u) (l.getD u dB) q).getLast hne).t = (pcO a b c f t (l.getD u dB) q).1 ∧ ((inO a b c f t (outA l a b c f t u) (l.getD u dB) q).getLast hne).c = (pcO a b c f t (l.getD u dB) q).2.2) := by rw [← hxx]; simp only [pcO]; simp_all
         have hq' : (inO a b c f t (outA l a b c f t u) (l.getD u dB)) (q + 1) = (inO a b c f t (outA l a b c f t u) (l.getD u dB) q) ++ [⟨(pcO a b c f t (l.getD u dB) q).1, (pcO a b c f t (l.getD u dB) q).2.1, x⟩] := by rw [hs', hxx]; exact addR_more hpp hne hd
         refine back rfl (.inr ⟨q + 1, x37, c38, _, _, by omega, (by rw [hq', List.map_append]; rfl), (by rw [hq']; simp [chunk_length]), by rw [hq']; simp, (by simpa [chunk_length] using hc39)⟩) (by dsimp only; omega) (.cons _ (.cons_cons _ (.cons_cons _ (.refl _)))) (subT.cons Z (subT.cons Z (subT.cons Z (subT.cons Z (subT.cons Z (subT.cons Z (subT.cons Z (subT.cons Z (subT.cons Z subT.nil)))))))))
       ·
        have g34 : _ = false := g34
        refine C Z Z (fun jj => U Z Z g34 K jj)<|C Z Z (fun jj => U Z Z g34 K jj)<|C Z Z (fun jj => U Z Z g34 K jj)<|C Z Z (fun jj => U Z Z g34 K jj)<|C Z Z (fun jj => U Z Z g34 K jj)<|C Z Z (fun jj => U Z Z g34 K jj)<|c_val Z Z (fun _ _ _ _ jj => U Z Z g34 K jj)<|C Z Z (fun jj => U Z Z g34 K jj)<|c_val Z Z (fun _ _ _ _ jj => U Z Z g34 K jj)<|C Z Z (fun jj => U Z Z g34 K jj)<|C Z Z (fun jj => o_pickf Z g34 rfl K jj)<|c_nil ?_
        refine h_condf Z Z<|H<|G Z K<|O 0 Z Z Z Z K<|o_buildSlicep Z (by rfl) (by rfl) (by rfl) (by rfl) K ?_
        refine o_append 1 Z Z Z (Src.v _ _) (okB_one rfl) (by simp) (by first | (simp only [List.length_map, chunk_length, List.length_cons, List.length_nil]; omega) | (simp [chunk_length]; try omega)) K fun x40 c41 hc42 => ?_
        refine S Z K<|o_nil<|H<|G Z K<|o_add Z Z (by unfold in64; (try dsimp only); omega) K ?_
        refine S Z K<|o_nil ?_
        have hs : (inO a b c f t (outA l a b c f t u) (l.getD u dB)) (q + 1) = addO (inO a b c f t (outA l a b c f t u) (l.getD u dB) q) (pcO a b c f t (l.getD u dB) q) := rfl
        have hx : ¬ (pcO a b c f t (l.getD u dB) q).1 = (pcO a b c f t (l.getD u dB) q).2.1 := (by have h := c23; rw [decide_eq_false_iff_not] at h; exact h)
        have hs' : (inO a b c f t (outA l a b c f t u) (l.getD u dB)) (q + 1) = addR (inO a b c f t (outA l a b c f t u) (l.getD u dB) q) (pcO a b c f t (l.getD u dB) q).1 (pcO a b c f t (l.getD u dB) q).2.1 (pcO a b c f t (l.getD u dB) q).2.2 := by rw [hs]; unfold addO; rw [if_neg hx]
        have hpp : ¬ (pcO a b c f t (l.getD u dB) q).2.2 < 0 := pc_pos hzc.1 hb0 hc0
        have hd : ¬ (((inO a b c f t (outA l a b c f t u) (l.getD u dB) q).getLast hne).t = (pcO a b c f t (l.getD u dB) q).1 ∧ ((inO a b c f t (outA l a b c f t u) (l.getD u dB) q).getLast hne).c = (pcO a b c f t (l.getD u dB) q).2.2) := by rw [← hxx]; simp only [pcO]; simp_all
        have hq' : (inO a b c f t (outA l a b c f t u) (l.getD u dB)) (q + 1) = (inO a b c f t (outA l a b c f t u) (l.getD u dB) q) ++ [⟨(pcO a b c f t (l.getD u dB) q).1, (pcO a b c f t (l.getD u dB) q).2.1, x⟩] := by rw [hs', hxx]; exact addR_more hpp hne hd
        refine back rfl (.inr ⟨q + 1, x40, c41, _, _, by omega, (by rw [hq', List.map_append]; rfl), (by rw [hq']; simp [chunk_length]), by rw [hq']; simp, (by simpa [chunk_length] using hc42)⟩) (by dsimp only; omega) (.cons _ (.cons_cons _ (.cons_cons _ (.refl _)))) (subT.cons Z (subT.cons Z (subT.cons Z (subT.cons Z (subT.cons Z (subT.cons Z (subT.cons Z (subT.cons Z (subT.cons Z subT.nil)))))))))
    ·
     obtain rfl : q = 3 := by omega
     refine h_seq<|h_seq<|H<|G Z K<|o_cmp Z Z Z K<|o_nil<|h_condf Z (by simp <;> omega) ?_
     refine h_exit<|H<|G Z K<|o_add Z Z (by unfold in64; (try dsimp only); omega) K ?_
     refine S Z K<|o_nil ?_
     have hs : (outA l a b c f t) (u + 1) = (inO a b c f t (outA l a b c f t u) (l.getD u dB)) 3 := (outA_succ hlt).trans (inO3 _ _ _ _ _ _ _).symm
     refine back rfl (.inr ⟨u + 1, ob, c', _, _, by omega, by rw [hs], by rw [hs], by rw [hs]; exact hne, hc'⟩) (by dsimp only; omega) (.cons_cons _ (.cons_cons _ (.refl _))) (subT.cons Z (subT.cons Z (subT.cons Z (subT.cons Z (subT.cons Z (subT.cons Z (subT.cons Z subT.nil)))))))
  ·
   obtain rfl : u = l.length := by omega
   refine h_seq<|h_seq<|H<|G Z K<|G Z K<|o_len Z K<|o_cmp Z Z Z K<|o_nil<|h_condf Z (by simp <;> omega) ?_
   exact h_exit<|h_seq<|H<|G Z K<|S Z K<|o_nil<|h_ret<|ret1' Z (by rw [← outA_all, ho]; rfl)
 ·
  dsimp only
  subst he; subst hl
  by_cases hlt : u < l.length
  have hol := outA_len l a b c f t u
  ·
   have hzc := hcar _ (show (l.getD u dB) ∈ l by rw [List.getD_eq_getElem?_getD, List.getElem?_eq_getElem hlt]; exact List.getElem_mem hlt)
   refine h_seq<|h_seq<|H<|G Z K<|G Z K<|o_len Z K<|o_cmp Z Z Z K<|o_nil<|h_condt Z (by simp; omega) ?_
   refine h_skip<|h_seq<|h_block<|h_seq<|h_draw _ (List.nil_sublist _) [(0, .flo), (1, .flo), (2, .flo), (3, .flo), (4, .flo), (5, .val), (6, .flo), (7, .flo), (8, .flo), (9, .flo), (10, .flo), (11, .val), (12, .flo), (13, .val), (14, .flo), (15, .flo), (16, .flo), (17, .flo), (18, .flo), (19, .val), (20, .flo), (21, .flo), (22, .flo), (23, .flo), (24, .flo), (25, .flo), (26, .flo), (27, .val), (28, .flo), (29, .val), (30, .flo), (31, .flo), (32, .flo), (33, .flo), (34, .flo), (35, .val), (36, .flo), (37, .flo), (38, .flo), (39, .flo), (40, .flo), (41, .flo), (42, .flo), (43, .val), (44, .flo), (45, .flo)] mixed (by kernel_rfl)<|C Z Z (fun jj => G Z K jj)<|C Z Z (fun jj => G Z K jj)<|C Z Z (fun jj => o_idxv Z Z (by first | omega | (have := List.length_pos_iff.2 hne; omega)) (eltBk (by simpa using hlt)) rfl K jj) ?_
   refine C Z Z (fun jj => o_faddrv Z Z K rfl K jj)<|C Z Z (fun jj => o_faddrv Z Z K rfl K jj)<|c_val Z Z (fun _ _ _ _ jj => o_loadv Z Z K jj)<|C Z Z (fun jj => G Z K jj)<|C Z Z (fun jj => G Z K jj)<|C Z Z (fun jj => o_idxv Z Z (by first | omega | (have := List.length_pos_iff.2 hne; omega)) (eltBk (by simpa using hlt)) rfl K jj) ?_
   refine C Z Z (fun jj => o_faddrv Z Z K rfl K jj)<|C Z Z (fun jj => o_faddrv Z Z K rfl K jj)<|c_val Z Z (fun _ _ _ _ jj => o_loadv Z Z K jj)<|C Z Z (fun jj => F Z Z K K jj)<|c_val Z Z (fun _ _ _ _ jj => O 1 Z Z Z Z K jj)<|C Z Z (fun jj => G Z K jj)<|C Z Z (fun jj => G Z K jj)<|C Z Z (fun jj => o_idxv Z Z (by first | omega | (have := List.length_pos_iff.2 hne; omega)) (eltBk (by simpa using hlt)) rfl K jj) ?_
   refine C Z Z (fun jj => o_faddrv Z Z K rfl K jj)<|C Z Z (fun jj => o_faddrv Z Z K rfl K jj)<|c_val Z Z (fun _ _ _ _ jj => o_loadv Z Z K jj)<|C Z Z (fun jj => o_min Z Z K jj)<|C Z Z (fun jj => o_max Z Z K jj)<|C Z Z (fun jj => G Z K jj)<|C Z Z (fun jj => G Z K jj)<|C Z Z (fun jj => o_idxv Z Z (by first | omega | (have := List.length_pos_iff.2 hne; omega)) (eltBk (by simpa using hlt)) rfl K jj) ?_
   refine C Z Z (fun jj => o_faddrv Z Z K rfl K jj)<|C Z Z (fun jj => o_faddrv Z Z K rfl K jj)<|c_val Z Z (fun _ _ _ _ jj => o_loadv Z Z K jj)<|C Z Z (fun jj => F Z Z K K jj)<|c_val Z Z (fun _ _ _ _ jj => O 1 Z Z Z Z K jj)<|C Z Z (fun jj => G Z K jj)<|C Z Z (fun jj => G Z K jj)<|C Z Z (fun jj => o_idxv Z Z (by first | omega | (have := List.length_pos_iff.2 hne; omega)) (eltBk (by simpa using hlt)) rfl K jj) ?_
   refine C Z Z (fun jj => o_faddrv Z Z K rfl K jj)<|C Z Z (fun jj => o_faddrv Z Z K rfl K jj)<|c_val Z Z (fun _ _ _ _ jj => o_loadv Z Z K jj)<|C Z Z (fun jj => o_min Z Z K jj)<|C Z Z (fun jj => o_max Z Z K jj)<|C Z Z (fun jj => G Z K jj)<|C Z Z (fun jj => G Z K jj)<|C Z Z (fun jj => o_idxv Z Z (by first | omega | (have := List.length_pos_iff.2 hne; omega)) (eltBk (by simpa using hlt)) rfl K jj) ?_
   refine C Z Z (fun jj => o_faddrv Z Z K rfl K jj)<|C Z Z (fun jj => o_faddrv Z Z K rfl K jj)<|c_val Z Z (fun _ _ _ _ jj => o_loadv Z Z K jj)<|C Z Z (fun jj => o_buildSlicep Z (by rfl) (by rfl) (by rfl) (by rfl) K jj) ?_
   refine C Z Z (fun jj => S Z K jj)<|c_nil<|h_seq<|H<|S Z K<|o_nil<|h_block<|h_famS (ι := (CrI (inO a b c f t (outA l a b c f t u) (l.getD u dB)) 4) ⊕ (CrJ (inO a b c f t (outA l a b c f t u) (l.getD u dB)) 4)) (fun j => match j with | .inl j => [(0, V (l.map encB) fl), (1, I a), (2, I b), (3, I c), (9, .ptr x1 0), (11, V [] true), (12, I (u : Nat)), (13, V ((e4O f t (l.getD u dB)).map encI) true), (14, I (j.i : Nat))] | .inr j => [(0, V (l.map encB) fl), (1, I a), (2, I b), (3, I c), (9, .ptr x1 0), (11, .os j.ob 3 0 j.len j.c), (12, I (u : Nat)), (13, V ((e4O f t (l.getD u dB)).map encI) true), (14, I (j.i : Nat))]) (fun j => match j with | .inl j => (x1, .box 39 [I f, I t]) :: [] | .inr j => (j.ob, .arr 116 3 j.es j.c) :: (x1, .box 39 [I f, I t]) :: []) (fun j => match j with | .inl j => 3 - j.i | .inr j => 3 - j.i) (.inr ⟨0, ob, c', _, _, by omega, rfl, rfl, hne, hc'⟩) (.cons_cons _ (.cons_cons _ (.refl _))) (subT.cons Z (subT.cons Z (subT.cons Z (subT.cons Z (subT.cons Z (subT.cons Z (subT.cons Z (subT.cons Z (subT.cons Z subT.nil))))))))) ?_
   rintro (⟨q, hq4, ho⟩ | ⟨q, ob, c', es, len, hq4, he, hl, hne, hc'⟩)
   ·
    dsimp only
    by_cases hq : q < 3
    have hql := inO_len a b c f t (outA l a b c f t u) (l.getD u dB) q
    ·
     refine h_seq<|h_seq<|H<|G Z K<|o_cmp Z Z Z K<|o_nil<|h_condt Z (by simp; omega) ?_
     refine h_skip<|h_seq<|h_block<|h_seq<|h_draw _ (.cons_cons _ (List.nil_sublist _)) [(0, .flo), (1, .flo), (2, .flo), (3, .val), (4, .flo), (5, .flo), (6, .flo), (7, .flo), (8, .val), (9, .flo), (10, .flo), (11, .flo), (12, .flo), (13, .flo), (14, .val), (15, .flo), (16, .new), (17, .sto)] mixed (by kernel_rfl)<|C Z Z (fun jj => G Z K jj)<|C Z Z (fun jj => G Z K jj)<|C Z Z (fun jj => o_idxv Z Z (by first | omega | (have := List.length_pos_iff.2 hne; omega)) (eltIn (by show _ < 4; omega)) rfl K jj) ?_
     refine c_val Z Z (fun _ _ _ _ jj => o_loadv Z Z K jj)<|C Z Z (fun jj => G Z K jj)<|C Z Z (fun jj => G Z K jj)<|C Z Z (fun jj => o_add Z Z (by unfold in64; (try dsimp only); omega) K jj) ?_
     refine C Z Z (fun jj => o_idxv Z Z (by first | omega | (have := List.length_pos_iff.2 hne; omega)) (eltIn (by show _ < 4; omega)) rfl K jj) ?_
     refine c_val Z Z (fun _ _ _ _ jj => o_loadv Z Z K jj)<|C Z Z (fun jj => o_build Z Z K jj)<|C Z Z (fun jj => G Z K jj)<|C Z Z (fun jj => G Z K jj)<|C Z Z (fun jj => o_idxv Z Z (by first | omega | (have := List.length_pos_iff.2 hne; omega)) (eltBk (by simpa using hlt)) rfl K jj) ?_
     refine C Z Z (fun jj => o_faddrv Z Z K rfl K jj)<|c_val Z Z (fun _ _ _ _ jj => o_loadv Z Z K jj)<|C Z Z (fun jj => o_build Z Z K jj)<|c_new Z Z (fun _ _ _ _ jj => o_alloc K jj) fun x47 => ?_
     refine c_sto (.cons _ (.cons_cons _ (List.nil_sublist _))) rfl rfl (fun _ _ _ _ jj => o_store 0 Z Z Z Z Z Z jj)<|c_nil<|h_seq<|h_seq<|H<|F Z Z K K<|F Z Z K K<|O 0 Z Z Z Z K<|F Z Z K K<|F Z Z K K<|O 0 Z Z Z Z K<|o_cmp Z Z Z K ?_
     refine o_nil<|h_cond Z (fun c49 => ?_) (fun c49 => ?_)
     ·
      refine h_exit<|H<|G Z K<|o_add Z Z (by unfold in64; (try dsimp only); omega) K ?_
      refine S Z K<|o_nil ?_
      have hs : (inO a b c f t (outA l a b c f t u) (l.getD u dB)) (q + 1) = addO (inO a b c f t (outA l a b c f t u) (l.getD u dB) q) (pcO a b c f t (l.getD u dB) q) := rfl
      have hx : (pcO a b c f t (l.getD u dB) q).1 = (pcO a b c f t (l.getD u dB) q).2.1 := (by have h := c49; rw [decide_eq_true_eq] at h; exact h)
      have hq' : (inO a b c f t (outA l a b c f t u) (l.getD u dB)) (q + 1) = (inO a b c f t (outA l a b c f t u) (l.getD u dB) q) := by rw [hs]; unfold addO; rw [if_pos hx]
      refine back rfl (.inl ⟨q + 1, by omega, by rw [hq']; exact ho⟩) (by dsimp only; omega) (.cons _ (.cons_cons _ (.refl _))) (subT.cons Z (subT.cons Z (subT.cons Z (subT.cons Z (subT.cons Z (subT.cons Z (subT.cons Z (subT.cons Z (subT.cons Z subT.nil)))))))))
     ·
      refine h_skip<|h_seqK (ι := {x : Int // x = (pcO a b c f t (l.getD u dB) q).2.2}) (fun i => [(0, V (l.map encB) fl), (1, I a), (2, I b), (3, I c), (9, .ptr x1 0), (11, V [] true), (12, I (u : Nat)), (13, V ((e4O f t (l.getD u dB)).map encI) true), (14, I (q : Nat)), (15, .ptr x47 0), (94, B (decide ((e4O f t (l.getD u dB)).getD ((q : Nat) : Int).toNat 0 = (e4O f t (l.getD u dB)).getD ((q : Int) + 1).toNat 0)))]) (fun i => [(x47, .box 116 [I ((e4O f t (l.getD u dB)).getD ((q : Nat) : Int).toNat 0), I ((e4O f t (l.getD u dB)).getD ((q : Int) + 1).toNat 0), I i.1]), (x1, .box 39 [I f, I t])]) ?_ ?_
      ·
       refine h_seq<|H<|F Z Z K K<|O 0 Z Z Z Z K<|G Z K<|o_cmp Z Z Z K<|G Z K<|o_guard Z Z K (fun g51 => ?_) (fun g51 => ?_)
       ·
        have g51 : _ = true := g51
        refine G Z K<|W Z Z g51 K<|o_cmp Z Z Z K<|o_pickt Z g51 rfl K<|o_nil<|h_cond Z (fun c53 => ?_) (fun c53 => ?_)
        ·
         refine H<|G Z K<|F Z Z K K ?_
         exact o_store 0 Z Z Z Z Z Z<|o_nil<|join rfl (⟨b, by simp only [pcO]; first | (simp_all; done) | (simp_all; omega)⟩) (.refl _) (.cons_cons _ (.cons_cons _ (List.nil_sublist _))) (subT.cons Z (subT.cons Z (subT.cons Z (subT.cons Z (subT.cons Z (subT.cons Z (subT.cons Z (subT.cons Z (subT.cons Z (subT.cons Z (subT.cons Z subT.nil)))))))))))
        ·
         refine h_seq<|H<|F Z Z K K<|O 0 Z Z Z Z K<|G Z K<|o_cmp Z Z Z K<|o_nil<|h_cond Z (fun c55 => ?_) (fun c55 => ?_)
         ·
          refine H<|G Z K<|F Z Z K K ?_
          exact o_store 0 Z Z Z Z Z Z<|o_nil<|join rfl (⟨c, by simp only [pcO]; first | (simp_all; done) | (simp_all; omega)⟩) (.refl _) (.cons_cons _ (.cons_cons _ (List.nil_sublist _))) (subT.cons Z (subT.cons Z (subT.cons Z (subT.cons Z (subT.cons Z (subT.cons Z (subT.cons Z (subT.cons Z (subT.cons Z (subT.cons Z (subT.cons Z subT.nil)))))))))))
         ·
          exact h_skip<|join rfl (⟨(l.getD u dB).c, by simp only [pcO]; first | (simp_all; done) | (simp_all; omega)⟩) (.refl _) (.cons_cons _ (.cons_cons _ (List.nil_sublist _))) (subT.cons Z (subT.cons Z (subT.cons Z (subT.cons Z (subT.cons Z (subT.cons Z (subT.cons Z (subT.cons Z (subT.cons Z (subT.cons Z (subT.cons Z subT.nil)))))))))))
       ·
        have g51 : _ = false := g51
        refine U Z Z g51 K<|o_pickf Z g51 rfl K<|o_nil<|h_condf Z Z<|h_seq<|H<|F Z Z K K<|O 0 Z Z Z Z K<|G Z K<|o_cmp Z Z Z K<|o_nil<|h_cond Z (fun c57 => ?_) (fun c57 => ?_)
        ·
         refine H<|G Z K<|F Z Z K K ?_
         exact o_store 0 Z Z Z Z Z Z<|o_nil<|join rfl (⟨c, by simp only [pcO]; first | (simp_all; done) | (simp_all; omega)⟩) (.refl _) (.cons_cons _ (.cons_cons _ (List.nil_sublist _))) (subT.cons Z (subT.cons Z (subT.cons Z (subT.cons Z (subT.cons Z (subT.cons Z (subT.cons Z (subT.cons Z (subT.cons Z (subT.cons Z (subT.cons Z subT.nil)))))))))))
        ·
         exact h_skip<|join rfl (⟨(l.getD u dB).c, by simp only [pcO]; first | (simp_all; done) | (simp_all; omega)⟩) (.refl _) (.cons_cons _ (.cons_cons _ (List.nil_sublist _))) (subT.cons Z (subT.cons Z (subT.cons Z (subT.cons Z (subT.cons Z (subT.cons Z (subT.cons Z (subT.cons Z (subT.cons Z (subT.cons Z (subT.cons Z subT.nil)))))))))))
      ·
       rintro ⟨x, hxx⟩
       dsimp only
       refine h_seq<|H<|G Z K<|o_len Z K<|S Z K<|o_nil<|h_seq<|h_draw _ (List.nil_sublist _) [(0, .flo), (1, .flo), (2, .flo), (3, .flo), (4, .flo), (5, .flo), (6, .flo), (7, .flo), (8, .flo), (9, .flo), (10, .val), (11, .flo), (12, .flo), (13, .val), (14, .flo), (15, .flo), (16, .flo), (17, .flo), (18, .flo), (19, .flo), (20, .flo), (21, .flo), (22, .flo), (23, .val), (24, .flo), (25, .val), (26, .flo), (27, .flo)] mixed (by kernel_rfl)<|C Z Z (fun jj => G Z K jj)<|C Z Z (fun jj => o_cmp Z Z Z K jj)<|C Z Z (fun jj => G Z K jj)<|C Z Z (fun jj => U Z Z K K jj) ?_
       refine C Z Z (fun jj => U Z Z K K jj)<|C Z Z (fun jj => U Z Z K K jj)<|C Z Z (fun jj => U Z Z K K jj)<|C Z Z (fun jj => U Z Z K K jj)<|C Z Z (fun jj => U Z Z K K jj)<|C Z Z (fun jj => U Z Z K K jj)<|c_val Z Z (fun _ _ _ _ jj => U Z Z K K jj)<|C Z Z (fun jj => U Z Z K K jj)<|C Z Z (fun jj => U Z Z K K jj)<|c_val Z Z (fun _ _ _ _ jj => U Z Z K K jj)<|C Z Z (fun jj => U Z Z K K jj)<|C Z Z (fun jj => o_pickf Z K rfl K jj) ?_
       refine C Z Z (fun jj => G Z K jj)<|C Z Z (fun jj => U Z Z Z K jj)<|C Z Z (fun jj => U Z Z Z K jj)<|C Z Z (fun jj => U Z Z Z K jj)<|C Z Z (fun jj => U Z Z Z K jj)<|C Z Z (fun jj => U Z Z Z K jj)<|C Z Z (fun jj => U Z Z Z K jj)<|c_val Z Z (fun _ _ _ _ jj => U Z Z Z K jj)<|C Z Z (fun jj => U Z Z Z K jj)<|c_val Z Z (fun _ _ _ _ jj => U Z Z Z K jj)<|C Z Z (fun jj => U Z Z Z K jj)<|C Z Z (fun jj => o_pickf Z Z Z K jj) ?_
       refine c_nil<|h_condf Z Z<|H<|G Z K<|O 0 Z Z Z Z K<|o_buildSlicep Z (by rfl) (by rfl) (by rfl) (by rfl) K ?_
       refine o_appendv Z Z (Src.v _ _) (okB_one rfl) (by simp [chunk]) (by rw [chunk_length]; omega) (by first | (simp only [List.length_map, chunk_length, List.length_cons, List.length_nil]; omega) | (simp [chunk_length]; try omega)) K fun x59 c60 hc61 => ?_
       refine S Z K<|o_nil<|H<|G Z K<|o_add Z Z (by unfold in64; (try dsimp only); omega) K ?_
       refine S Z K<|o_nil ?_
       have hs : (inO a b c f t (outA l a b c f t u) (l.getD u dB)) (q + 1) = addO (inO a b c f t (outA l a b c f t u) (l.getD u dB) q) (pcO a b c f t (l.getD u dB) q) := rfl
       have hx : ¬ (pcO a b c f t (l.getD u dB) q).1 = (pcO a b c f t (l.getD u dB) q).2.1 := (by have h := c49; rw [decide_eq_false_iff_not] at h; exact h)
       have hs' : (inO a b c f t (outA l a b c f t u) (l.getD u dB)) (q + 1) = addR (inO a b c f t (outA l a b c f t u) (l.getD u dB) q) (pcO a b c f t (l.getD u dB) q).1 (pcO a b c f t (l.getD u dB) q).2.1 (pcO a b c f t (l.getD u dB) q).2.2 := by rw [hs]; unfold addO; rw [if_neg hx]
       have hpp : ¬ (pcO a b c f t (l.getD u dB) q).2.2 < 0 := pc_pos hzc.1 hb0 hc0
       have hq' : (inO a b c f t (outA l a b c f t u) (l.getD u dB)) (q + 1) = [⟨(pcO a b c f t (l.getD u dB) q).1, (pcO a b c f t (l.getD u dB) q).2.1, x⟩] := by rw [hs', ho, hxx]; exact addR_nil hpp
       refine back rfl (.inr ⟨q + 1, x59, c60, _, _, by omega, (by rw [hq']; rfl), (by rw [hq']; simp [chunk_length]), by rw [hq']; simp, (by simpa [chunk_length] using hc61)⟩) (by dsimp only; omega) (.cons_cons _ (.cons _ (.cons_cons _ (.refl _)))) (subT.cons Z (subT.cons Z (subT.cons Z (subT.cons Z (subT.cons Z (subT.cons Z (subT.cons Z (subT.cons Z (subT.cons Z subT.nil)))))))))
    ·
     obtain rfl : q = 3 := by omega
     refine h_seq<|h_seq<|H<|G Z K<|o_cmp Z Z Z K<|o_nil<|h_condf Z (by simp <;> omega) ?_
     refine h_exit<|H<|G Z K<|o_add Z Z (by unfold in64; (try dsimp only); omega) K ?_
     refine S Z K<|o_nil ?_
     have hs : (outA l a b c f t) (u + 1) = (inO a b c f t (outA l a b c f t u) (l.getD u dB)) 3 := (outA_succ hlt).trans (inO3 _ _ _ _ _ _ _).symm
     refine back rfl (.inl ⟨u + 1, by omega, by rw [hs]; exact ho⟩) (by dsimp only; omega) (.cons_cons _ (.refl _)) (subT.cons Z (subT.cons Z (subT.cons Z (subT.cons Z (subT.cons Z (subT.cons Z (subT.cons Z subT.nil)))))))
   ·
    dsimp only
    subst he; subst hl
    by_cases hq : q < 3
    have hql := inO_len a b c f t (outA l a b c f t u) (l.getD u dB) q
    ·
     refine h_seq<|h_seq<|H<|G Z K<|o_cmp Z Z Z K<|o_nil<|h_condt Z (by simp; omega) ?_
     refine h_skip<|h_seq<|h_block<|h_seq<|h_draw _ (.cons _ (.cons_cons _ (List.nil_sublist _))) [(0, .flo), (1, .flo), (2, .flo), (3, .val), (4, .flo), (5, .flo), (6, .flo), (7, .flo), (8, .val), (9, .flo), (10, .flo), (11, .flo), (12, .flo), (13, .flo), (14, .val), (15, .flo), (16, .new), (17, .sto)] mixed (by kernel_rfl)<|C Z Z (fun jj => G Z K jj)<|C Z Z (fun jj => G Z K jj)<|C Z Z (fun jj => o_idxv Z Z (by first | omega | (have := List.length_pos_iff.2 hne; omega)) (eltIn (by show _ < 4; omega)) rfl K jj) ?_
     refine c_val Z Z (fun _ _ _ _ jj => o_loadv Z Z K jj)<|C Z Z (fun jj => G Z K jj)<|C Z Z (fun jj => G Z K jj)<|C Z Z (fun jj => o_add Z Z (by unfold in64; (try dsimp only); omega) K jj) ?_
     refine C Z Z (fun jj => o_idxv Z Z (by first | omega | (have := List.length_pos_iff.2 hne; omega)) (eltIn (by show _ < 4; omega)) rfl K jj) ?_
     refine c_val Z Z (fun _ _ _ _ jj => o_loadv Z Z K jj)<|C Z Z (fun jj => o_build Z Z K jj)<|C Z Z (fun jj => G Z K jj)<|C Z Z (fun jj => G Z K jj)<|C Z Z (fun jj => o_idxv Z Z (by first | omega | (have := List.length_pos_iff.2 hne; omega)) (eltBk (by simpa using hlt)) rfl K jj) ?_
     refine C Z Z (fun jj => o_faddrv Z Z K rfl K jj)<|c_val Z Z (fun _ _ _ _ jj => o_loadv Z Z K jj)<|C Z Z (fun jj => o_build Z Z K jj)<|c_new Z Z (fun _ _ _ _ jj => o_alloc K jj) fun x64 => ?_
     refine c_sto (.cons _ (.cons _ (.cons_cons _ (List.nil_sublist _)))) rfl rfl (fun _ _ _ _ jj => o_store 0 Z Z Z Z Z Z jj)<|c_nil<|h_seq<|h_seq<|H<|F Z Z K K<|F Z Z K K<|O 0 Z Z Z Z K<|F Z Z K K<|F Z Z K K<|O 0 Z Z Z Z K<|o_cmp Z Z Z K ?_
     refine o_nil<|h_cond Z (fun c66 => ?_) (fun c66 => ?_)
     ·
      refine h_exit<|H<|G Z K<|o_add Z Z (by unfold in64; (try dsimp only); omega) K ?_
      refine S Z K<|o_nil ?_
      have hs : (inO a b c f t (outA l a b c f t u) (l.getD u dB)) (q + 1) = addO (inO a b c f t (outA l a b c f t u) (l.getD u dB) q) (pcO a b c f t (l.getD u dB) q) := rfl
      have hx : (pcO a b c f t (l.getD u dB) q).1 = (pcO a b c f t (l.getD u dB) q).2.1 := (by have h := c66; rw [decide_eq_true_eq] at h; exact h)
      have hq' : (inO a b c f t (outA l a b c f t u) (l.getD u dB)) (q + 1) = (inO a b c f t (outA l a b c f t u) (l.getD u dB) q) := by rw [hs]; unfold addO; rw [if_pos hx]
      refine back rfl (.inr ⟨q + 1, ob, c', _, _, by omega, by rw [hq'], by rw [hq'], by rw [hq']; exact hne, hc'⟩) (by dsimp only; omega) (.cons _ (.cons_cons _ (.cons_cons _ (.refl _)))) (subT.cons Z (subT.cons Z (subT.cons Z (subT.cons Z (subT.cons Z (subT.cons Z (subT.cons Z (subT.cons Z (subT.cons Z subT.nil)))))))))
     ·
      refine h_skip<|h_seqK (ι := {x : Int // x = (pcO a b c f t (l.getD u dB) q).2.2}) (fun i => [(0, V (l.map encB) fl), (1, I a), (2, I b), (3, I c), (9, .ptr x1 0), (11, .os ob 3 0 (inO a b c f t (outA l a b c f t u) (l.getD u dB) q).length c'), (12, I (u : Nat)), (13, V ((e4O f t (l.getD u dB)).map encI) true), (14, I (q : Nat)), (15, .ptr x64 0), (94, B (decide ((e4O f t (l.getD u dB)).getD ((q : Nat) : Int).toNat 0 = (e4O f t (l.getD u dB)).getD ((q : Int) + 1).toNat 0)))]) (fun i => [(x64, .box 116 [I ((e4O f t (l.getD u dB)).getD ((q : Nat) : Int).toNat 0), I ((e4O f t (l.getD u dB)).getD ((q : Int) + 1).toNat 0), I i.1]), (ob, .arr 116 3 ((inO a b c f t (outA l a b c f t u) (l.getD u dB) q).map encB) c'), (x1, .box 39 [I f, I t])]) ?_ ?_
      ·
       refine h_seq<|H<|F Z Z K K<|O 0 Z Z Z Z K<|G Z K<|o_cmp Z Z Z K<|G Z K<|o_guard Z Z K (fun g68 => ?_) (fun g68 => ?_)
       ·
        have g68 : _ = true := g68
        refine G Z K<|W Z Z g68 K<|o_cmp Z Z Z K<|o_pickt Z g68 rfl K<|o_nil<|h_cond Z (fun c70 => ?_) (fun c70 => ?_)
        ·
         refine H<|G Z K<|F Z Z K K ?_
         exact o_store 0 Z Z Z Z Z Z<|o_nil<|join rfl (⟨b, by simp only [pcO]; first | (simp_all; done) | (simp_all; omega)⟩) (.refl _) (.cons_cons _ (.cons_cons _ (.cons_cons _ (List.nil_sublist _)))) (subT.cons Z (subT.cons Z (subT.cons Z (subT.cons Z (subT.cons Z (subT.cons Z (subT.cons Z (subT.cons Z (subT.cons Z (subT.cons Z (subT.cons Z subT.nil)))))))))))
        ·
         refine h_seq<|H<|F Z Z K K<|O 0 Z Z Z Z K<|G Z K<|o_cmp Z Z Z K<|o_nil<|h_cond Z (fun c72 => ?_) (fun c72 => ?_)
         ·
          refine H<|G Z K<|F Z Z K K ?_
          exact o_store 0 Z Z Z Z Z Z<|o_nil<|join rfl (⟨c, by simp only [pcO]; first | (simp_all; done) | (simp_all; omega)⟩) (.refl _) (.cons_cons _ (.cons_cons _ (.cons_cons _ (List.nil_sublist _)))) (subT.cons Z (subT.cons Z (subT.cons Z (subT.cons Z (subT.cons Z (subT.cons Z (subT.cons Z (subT.cons Z (subT.cons Z (subT.cons Z (subT.cons Z subT.nil)))))))))))
         ·
          exact h_skip<|join rfl (⟨(l.getD u dB).c, by simp only [pcO]; first | (simp_all; done) | (simp_all; omega)⟩) (.refl _) (.cons_cons _ (.cons_cons _ (.cons_cons _ (List.nil_sublist _)))) (subT.cons Z (subT.cons Z (subT.cons Z (subT.cons Z (subT.cons Z (subT.cons Z (subT.cons Z (subT.cons Z (subT.cons Z (subT.cons Z (subT.cons Z subT.nil)))))))))))
       ·
        have g68 : _ = false := g68
        refine U Z Z g68 K<|o_pickf Z g68 rfl K<|o_nil<|h_condf Z Z<|h_seq<|H<|F Z Z K K<|O 0 Z Z Z Z K<|G Z K<|o_cmp Z Z Z K<|o_nil<|h_cond Z (fun c74 => ?_) (fun c74 => ?_)
        ·
         refine H<|G Z K<|F Z Z K K ?_
         exact o_store 0 Z Z Z Z Z Z<|o_nil<|join rfl (⟨c, by simp only [pcO]; first | (simp_all; done) | (simp_all; omega)⟩) (.refl _) (.cons_cons _ (.cons_cons _ (.cons_cons _ (List.nil_sublist _)))) (subT.cons Z (subT.cons Z (subT.cons Z (subT.cons Z (subT.cons Z (subT.cons Z (subT.cons Z (subT.cons Z (subT.cons Z (subT.cons Z (subT.cons Z subT.nil)))))))))))
        ·
         exact h_skip<|join rfl (⟨(l.getD u dB).c, by simp only [pcO]; first | (simp_all; done) | (simp_all; omega)⟩) (.refl _) (.cons_cons _ (.cons_cons _ (.cons_cons _ (List.nil_sublist _)))) (subT.cons Z (subT.cons Z (subT.cons Z (subT.cons Z (subT.cons Z (subT.cons Z (subT.cons Z (subT.cons Z (subT.cons Z (subT.cons Z (subT.cons Z subT.nil)))))))))))
      ·
       rintro ⟨x, hxx⟩
       dsimp only
       refine h_seq<|H<|G Z K<|o_leno Z K<|S Z K<|o_nil<|h_seq<|h_draw _ (List.nil_sublist _) [(0, .flo), (1, .flo), (2, .flo), (3, .flo), (4, .flo), (5, .flo), (6, .flo), (7, .flo), (8, .flo), (9, .flo), (10, .val), (11, .flo), (12, .flo), (13, .val), (14, .flo), (15, .flo), (16, .flo), (17, .flo), (18, .flo), (19, .flo), (20, .flo), (21, .flo), (22, .flo), (23, .val), (24, .flo), (25, .val), (26, .flo), (27, .flo)] mixed (by kernel_rfl)<|C Z Z (fun jj => G Z K jj)<|C Z Z (fun jj => o_cmp Z Z Z K jj)<|C Z Z (fun jj => G Z K jj)<|C Z Z (fun jj => W Z Z (by have := List.length_pos_iff.2 hne; rw [decide_eq_true_eq]; omega) K (G Z K jj)) ?_
       refine C Z Z (fun jj => W Z Z (by have := List.length_pos_iff.2 hne; rw [decide_eq_true_eq]; omega) K (G Z K jj)) ?_
       refine C Z Z (fun jj => W Z Z (by have := List.length_pos_iff.2 hne; rw [decide_eq_true_eq]; omega) K (o_sub Z Z (by unfold in64; (try dsimp only); omega) K jj)) ?_
       refine C Z Z (fun jj => W Z Z (by have := List.length_pos_iff.2 hne; rw [decide_eq_true_eq]; omega) K (o_max Z Z K jj)) ?_
       refine C Z Z (fun jj => W Z Z (by have := List.length_pos_iff.2 hne; rw [decide_eq_true_eq]; omega) K (o_idxo Z Z (by first | omega | (have := List.length_pos_iff.2 hne; omega)) (by have := List.length_pos_iff.2 hne; omega) K jj)) ?_
       refine C Z Z (fun jj => W Z Z (by have := List.length_pos_iff.2 hne; rw [decide_eq_true_eq]; omega) K (o_faddre Z Z K K jj)) ?_
       refine C Z Z (fun jj => W Z Z (by have := List.length_pos_iff.2 hne; rw [decide_eq_true_eq]; omega) K (o_faddre Z Z K K jj)) ?_
       refine c_val Z Z (fun _ _ _ _ jj => W Z Z (by have := List.length_pos_iff.2 hne; rw [decide_eq_true_eq]; omega) K (o_loade 1 Z Z (lastM hne) rfl rfl K jj)) ?_
       refine C Z Z (fun jj => W Z Z (by have := List.length_pos_iff.2 hne; rw [decide_eq_true_eq]; omega) K (F Z Z K K jj)) ?_
       refine C Z Z (fun jj => W Z Z (by have := List.length_pos_iff.2 hne; rw [decide_eq_true_eq]; omega) K (F Z Z K K jj)) ?_
       refine c_val Z Z (fun _ _ _ _ jj => W Z Z (by have := List.length_pos_iff.2 hne; rw [decide_eq_true_eq]; omega) K (O 0 Z Z Z Z K jj)) ?_
       refine C Z Z (fun jj => W Z Z (by have := List.length_pos_iff.2 hne; rw [decide_eq_true_eq]; omega) K (o_cmp Z Z Z K jj)) ?_
       refine C Z Z (fun jj => o_pickt Z (by have := List.length_pos_iff.2 hne; rw [decide_eq_true_eq]; omega) rfl K jj) ?_
       refine C Z Z (fun jj => G Z K jj)<|c_split (t := 129) rfl (fun g77 => ?_) (fun g77 => ?_)
       ·
        have g77 : _ = true := g77
        refine C Z Z (fun jj => W Z Z g77 K (G Z K jj))<|C Z Z (fun jj => W Z Z g77 K (G Z K jj))<|C Z Z (fun jj => W Z Z g77 K (o_sub Z Z (by unfold in64; (try dsimp only); omega) K jj)) ?_
        refine C Z Z (fun jj => W Z Z g77 K (o_max Z Z K jj))<|C Z Z (fun jj => W Z Z g77 K (o_idxo Z Z (by first | omega | (have := List.length_pos_iff.2 hne; omega)) (by have := List.length_pos_iff.2 hne; omega) K jj)) ?_
        refine C Z Z (fun jj => W Z Z g77 K (o_faddre Z Z K K jj))<|c_val Z Z (fun _ _ _ _ jj => W Z Z g77 K (o_loade 1 Z Z (lastM hne) rfl rfl K jj))<|C Z Z (fun jj => W Z Z g77 K (F Z Z K K jj))<|c_val Z Z (fun _ _ _ _ jj => W Z Z g77 K (O 0 Z Z Z Z K jj))<|C Z Z (fun jj => W Z Z g77 K (o_cmp Z Z Z K jj))<|C Z Z (fun jj => o_pickt Z g77 rfl K jj)<|c_nil<|h_cond Z (fun c79 => ?_) (fun c79 => ?_)
        ·
         refine H<|G Z K<|G Z K<|o_sub Z Z (by unfold in64; (try dsimp only); omega) K ?_
         refine F Z Z K K<|F Z Z K K<|O 0 Z Z Z Z K<|o_idxo Z Z (by first | omega | (have := List.length_pos_iff.2 hne; omega)) (by have := List.length_pos_iff.2 hne; omega) K ?_
         refine o_faddre Z Z K K<|o_faddre Z Z K K ?_
         refine o_storee 1 Z Z (lastE hne) rfl rfl rfl rfl (by simp [encB]) ?_
         refine o_nil<|H<|G Z K<|o_add Z Z (by unfold in64; (try dsimp only); omega) K ?_
         refine S Z K<|o_nil ?_
         have hs : (inO a b c f t (outA l a b c f t u) (l.getD u dB)) (q + 1) = addO (inO a b c f t (outA l a b c f t u) (l.getD u dB) q) (pcO a b c f t (l.getD u dB) q) := rfl
         have hx : ¬ (pcO a b c f t (l.getD u dB) q).1 = (pcO a b c f t (l.getD u dB) q).2.1 := (by have h := c66; rw [decide_eq_false_iff_not] at h; exact h)
         have hs' : (inO a b c f t (outA l a b c f t u) (l.getD u dB)) (q + 1) = addR (inO a b c f t (outA l a b c f t u) (l.getD u dB) q) (pcO a b c f t (l.getD u dB) q).1 (pcO a b c f t (l.getD u dB) q).2.1 (pcO a b c f t (l.getD u dB) q).2.2 := by rw [hs]; unfold addO; rw [if_neg hx]
         have hpp : ¬ (pcO a b c f t (l.getD u dB) q).2.2 < 0 := pc_pos hzc.1 hb0 hc0
         have hd : ((inO a b c f t (outA l a b c f t u) (l.getD u dB) q).getLast hne).t = (pcO a b c f t (l.getD u dB) q).1 ∧ ((inO a b c f t (outA l a b c f t u) (l.getD u dB) q).getLast hne).c = (pcO a b c f t (l.getD u dB) q).2.2 := by rw [← hxx]; simp only [pcO]; simp_all
         have hq' : (inO a b c f t (outA l a b c f t u) (l.getD u dB)) (q + 1) = (inO a b c f t (outA l a b c f t u) (l.getD u dB) q).dropLast ++ [⟨((inO a b c f t (outA l a b c f t u) (l.getD u dB) q).getLast hne).f, (pcO a b c f t (l.getD u dB) q).2.1, ((inO a b c f t (outA l a b c f t u) (l.getD u dB) q).getLast hne).c⟩] := by rw [hs']; exact addR_long hpp hne hd
         refine back rfl (.inr ⟨q + 1, ob, c', _, _, by omega, (by rw [hq']; exact set_last hne ⟨_, (pcO a b c f t (l.getD u dB) q).2.1, _⟩), (by rw [hq', List.length_append, List.length_dropLast]; have := List.length_pos_iff.2 hne; simp only [List.length_cons, List.length_nil]; omega), by rw [hq']; simp, hc'⟩) (by dsimp only; omega) (.cons _ (.cons_cons _ (.cons_cons _ (.refl _)))) (subT.cons Z (subT.cons Z (subT.cons Z (subT.cons Z (subT.cons Z (subT.cons Z (subT.cons Z (subT.cons Z (subT.cons Z subT.nil)))))))))
        ·
         refine H<|G Z K<|O 0 Z Z Z Z K<|o_buildSlicep Z (by rfl) (by rfl) (by rfl) (by rfl) K ?_
         refine o_append 1 Z Z Z (Src.v _ _) (okB_one rfl) (by simp) (by first | (simp only [List.length_map, chunk_length, List.length_cons, List.length_nil]; omega) | (simp [chunk_length]; try omega)) K fun x80 c81 hc82 => ?_
         refine S Z K<|o_nil<|H<|G Z K<|o_add Z Z (by unfold in64; (try dsimp only); omega) K ?_
         refine S Z K<|o_nil ?_
         have hs : (inO a b c f t (outA l a b c f t u) (l.getD u dB)) (q + 1) = addO (inO a b c f t (outA l a b c f t u) (l.getD u dB) q) (pcO a b c f t (l.getD u dB) q) := rfl
         have hx : ¬ (pcO a b c f t (l.getD u dB) q).1 = (pcO a b c f t (l.getD u dB) q).2.1 := (by have h := c66; rw [decide_eq_false_iff_not] at h; exact h)
         have hs' : (inO a b c f t (outA l a b c f t u) (l.getD u dB)) (q + 1) = addR (inO a b c f t (outA l a b c f t u) (l.getD u dB) q) (pcO a b c f t (l.getD u dB) q).1 (pcO a b c f t (l.getD u dB) q).2.1 (pcO a b c f t (l.getD u dB) q).2.2 := by rw [hs]; unfold addO; rw [if_neg hx]
         have hpp : ¬ (pcO a b c f t (l.getD u dB) q).2.2 < 0 := pc_pos hzc.1 hb0 hc0
         have hd : ¬ (((inO a b c f t (outA l a b c f t u) (l.getD u dB) q).getLast hne).t = (pcO a b c f t (l.getD u dB) q).1 ∧ ((inO a b c f t (outA l a b c f t u) (l.getD u dB) q).getLast hne).c = (pcO a b c f t (l.getD u dB) q).2.2) := by rw [← hxx]; simp only [pcO]; simp_all
         have hq' : (inO a b c f t (outA l a b c f t u) (l.getD u dB)) (q + 1) = (inO a b c f t (outA l a b c f t u) (l.getD u dB) q) ++ [⟨(pcO a b c f t (l.getD u dB) q).1, (pcO a b c f t (l.getD u dB) q).2.1, x⟩] := by rw [hs', hxx]; exact addR_more hpp hne hd
         refine back rfl (.inr ⟨q + 1, x80, c81, _, _, by omega, (by rw [hq', List.map_append]; rfl), (by rw [hq']; simp [chunk_length]), by rw [hq']; simp, (by simpa [chunk_length] using hc82)⟩) (by dsimp only; omega) (.cons _ (.cons_cons _ (.cons_cons _ (.refl _)))) (subT.cons Z (subT.cons Z (subT.cons Z (subT.cons Z (subT.cons Z (subT.cons Z (subT.cons Z (subT.cons Z (subT.cons Z subT.nil)))))))))
       ·
        have g77 : _ = false := g77
        refine C Z Z (fun jj => U Z Z g77 K jj)<|C Z Z (fun jj => U Z Z g77 K jj)<|C Z Z (fun jj => U Z Z g77 K jj)<|C Z Z (fun jj => U Z Z g77 K jj)<|C Z Z (fun jj => U Z Z g77 K jj)<|C Z Z (fun jj => U Z Z g77 K jj)<|c_val Z Z (fun _ _ _ _ jj => U Z Z g77 K jj)<|C Z Z (fun jj => U Z Z g77 K jj)<|c_val Z Z (fun _ _ _ _ jj => U Z Z g77 K jj)<|C Z Z (fun jj => U Z Z g77 K jj)<|C Z Z (fun jj => o_pickf Z g77 rfl K jj)<|c_nil ?_
        refine h_condf Z Z<|H<|G Z K<|O 0 Z Z Z Z K<|o_buildSlicep Z (by rfl) (by rfl) (by rfl) (by rfl) K ?_
        refine o_append 1 Z Z Z (Src.v _ _) (okB_one rfl) (by simp) (by first | (simp only [List.length_map, chunk_length, List.length_cons, List.length_nil]; omega) | (simp [chunk_length]; try omega)) K fun x83 c84 hc85 => ?_
        refine S Z K<|o_nil<|H<|G Z K<|o_add Z Z (by unfold in64; (try dsimp only); omega) K ?_
        refine S Z K<|o_nil ?_
        have hs : (inO a b c f t (outA l a b c f t u) (l.getD u dB)) (q + 1) = addO (inO a b c f t (outA l a b c f t u) (l.getD u dB) q) (pcO a b c f t (l.getD u dB) q) := rfl
        have hx : ¬ (pcO a b c f t (l.getD u dB) q).1 = (pcO a b c f t (l.getD u dB) q).2.1 := (by have h := c66; rw [decide_eq_false_iff_not] at h; exact h)
        have hs' : (inO a b c f t (outA l a b c f t u) (l.getD u dB)) (q + 1) = addR (inO a b c f t (outA l a b c f t u) (l.getD u dB) q) (pcO a b c f t (l.getD u dB) q).1 (pcO a b c f t (l.getD u dB) q).2.1 (pcO a b c f t (l.getD u dB) q).2.2 := by rw [hs]; unfold addO; rw [if_neg hx]
        have hpp : ¬ (pcO a b c f t (l.getD u dB) q).2.2 < 0 := pc_pos hzc.1 hb0 hc0
        have hd : ¬ (((inO a b c f t (outA l a b c f t u) (l.getD u dB) q).getLast hne).t = (pcO a b c f t (l.getD u dB) q).1 ∧ ((inO a b c f t (outA l a b c f t u) (l.getD u dB) q).getLast hne).c = (pcO a b c f t (l.getD u dB) q).2.2) := by rw [← hxx]; simp only [pcO]; simp_all
        have hq' : (inO a b c f t (outA l a b c f t u) (l.getD u dB)) (q + 1) = (inO a b c f t (outA l a b c f t u) (l.getD u dB) q) ++ [⟨(pcO a b c f t (l.getD u dB) q).1, (pcO a b c f t (l.getD u dB) q).2.1, x⟩] := by rw [hs', hxx]; exact addR_more hpp hne hd
        refine back rfl (.inr ⟨q + 1, x83, c84, _, _, by omega, (by rw [hq', List.map_append]; rfl), (by rw [hq']; simp [chunk_length]), by rw [hq']; simp, (by simpa [chunk_length] using hc85)⟩) (by dsimp only; omega) (.cons _ (.cons_cons _ (.cons_cons _ (.refl _)))) (subT.cons Z (subT.cons Z (subT.cons Z (subT.cons Z (subT.cons Z (subT.cons Z (subT.cons Z (subT.cons Z (subT.cons Z subT.nil)))))))))
    ·
     obtain rfl : q = 3 := by omega
     refine h_seq<|h_seq<|H<|G Z K<|o_cmp Z Z Z K<|o_nil<|h_condf Z (by simp <;> omega) ?_
     refine h_exit<|H<|G Z K<|o_add Z Z (by unfold in64; (try dsimp only); omega) K ?_
     refine S Z K<|o_nil ?_
     have hs : (outA l a b c f t) (u + 1) = (inO a b c f t (outA l a b c f t u) (l.getD u dB)) 3 := (outA_succ hlt).trans (inO3 _ _ _ _ _ _ _).symm
     refine back rfl (.inr ⟨u + 1, ob, c', _, _, by omega, by rw [hs], by rw [hs], by rw [hs]; exact hne, hc'⟩) (by dsimp only; omega) (.cons_cons _ (.cons_cons _ (.refl _))) (subT.cons Z (subT.cons Z (subT.cons Z (subT.cons Z (subT.cons Z (subT.cons Z (subT.cons Z subT.nil)))))))
  ·
   obtain rfl : u = l.length := by omega
   refine h_seq<|h_seq<|H<|G Z K<|G Z K<|o_len Z K<|o_cmp Z Z Z K<|o_nil<|h_condf Z (by simp <;> omega) ?_
   exact h_exit<|h_seq<|H<|G Z K<|S Z K<|o_nil<|h_ret<|retF (.cons (resT rfl) .nil) (frz_os List.mem_cons_self (by simp) hc') ⟨_, rfl, by rw [← outA_all, List.isEmpty_eq_false_iff.2 hne], rfl⟩

end Go.Proofs.YtnoicbajhlpndaaGreat
/- The reference's valid worlds are the program's. -/
namespace Go.Proofs.YtnoicbajhlpndaaGreat
open Go Go.RowKit Go.Shelf Hp
set_option maxRecDepth 10000
set_option maxHeartbeats 1000000
set_option linter.unusedVariables false
set_option linter.unusedSimpArgs false
attribute [local irreducible] WP WPs FnX IterX YdX RetP PanP Ch Back Join
theorem not_sub {x y : Int} (x0 : 0 ≤ x) (x1 : x ≤ 255) (y0 : 0 ≤ y) (y1 : y ≤ 255) : bits64 .andNot x y = 0 ↔ bits64 .and x y = x := by
  obtain ⟨m, rfl⟩ := Int.eq_ofNat_of_zero_le x0
  obtain ⟨n, rfl⟩ := Int.eq_ofNat_of_zero_le y0
  have hm : m < 256 := by omega
  have hn : n < 256 := by omega
  have hle : ∀ z : BitVec 64, (BitVec.ofInt 64 (m : Int) &&& z).toNat ≤ m := fun z => by
    rw [BitVec.toNat_and]
    refine Nat.le_trans Nat.and_le_left ?_
    rw [ofInt_nat, BitVec.toNat_ofNat]
    exact Nat.mod_le _ _
  have hw : ∀ z : BitVec 64, IntKind.i64.wrap ((BitVec.ofInt 64 (m : Int) &&& z).toNat : Nat) = ((BitVec.ofInt 64 (m : Int) &&& z).toNat : Nat) := fun z => Hp.wrap_in (by have := hle z; unfold in64; omega)
  have e1 : bits64 .andNot (m : Int) (n : Int) = ((BitVec.ofInt 64 (m : Int) &&& ~~~ BitVec.ofInt 64 (n : Int)).toNat : Nat) := hw _
  have e2 : bits64 .and (m : Int) (n : Int) = ((BitVec.ofInt 64 (m : Int) &&& BitVec.ofInt 64 (n : Int)).toNat : Nat) := hw _
  have e3 : ((BitVec.ofInt 64 (m : Int)).toNat : Int) = m := by rw [ofInt_nat, BitVec.toNat_ofNat, Nat.mod_eq_of_lt (by omega)]
  rw [e1, e2]
  obtain ⟨a, ha⟩ : ∃ a, a = BitVec.ofInt 64 (m : Int) := ⟨_, rfl⟩
  obtain ⟨b, hb⟩ : ∃ b, b = BitVec.ofInt 64 (n : Int) := ⟨_, rfl⟩
  rw [← ha, ← hb]; rw [← ha] at e3
  have key : a &&& ~~~ b = 0#64 ↔ a &&& b = a := by
    constructor
    · intro h
      refine BitVec.eq_of_getLsbD_eq fun i hi => ?_
      have := congrArg (fun z => z.getLsbD i) h
      simp only [BitVec.getLsbD_and, BitVec.getLsbD_not, hi, decide_true, Bool.true_and, BitVec.getLsbD_zero] at this ⊢
      cases ha' : a.getLsbD i <;> cases hb' : b.getLsbD i <;> simp_all
    · intro h
      refine BitVec.eq_of_getLsbD_eq fun i hi => ?_
      have := congrArg (fun z => z.getLsbD i) h
      simp only [BitVec.getLsbD_and, BitVec.getLsbD_not, hi, decide_true, Bool.true_and, BitVec.getLsbD_zero] at this ⊢
      cases ha' : a.getLsbD i <;> cases hb' : b.getLsbD i <;> simp_all
  constructor
  · intro h
    have : a &&& ~~~ b = 0#64 := BitVec.eq_of_toNat_eq (by rw [show (0#64).toNat = 0 from rfl]; omega)
    rw [key.1 this]; exact e3
  · intro h
    have h2 : a &&& b = a := BitVec.eq_of_toNat_eq (by omega)
    rw [key.2 h2]; rfl
theorem minL_snoc : ∀ {l : List Int} {x : Int}, minL (l ++ [x]) = if l = [] then x else min (minL l) x
  | [], _ => rfl
  | a :: l, x => by rw [if_neg (by simp)]; simp only [List.cons_append, minL, List.foldl_append, List.foldl_cons, List.foldl_nil]
theorem maxL_snoc : ∀ {l : List Int} {x : Int}, maxL (l ++ [x]) = if l = [] then x else max (maxL l) x
  | [], _ => rfl
  | a :: l, x => by rw [if_neg (by simp)]; simp only [List.cons_append, maxL, List.foldl_append, List.foldl_cons, List.foldl_nil]
theorem levels_eq {w : Wd} (a0 : 0 ≤ w.alive) (a1 : w.alive ≤ 255) (h : ∀ j, j < 8 → 0 ≤ w.lev.getD j 0 ∧ w.lev.getD j 0 ≤ 9) : ∀ k, k ≤ 8 → (lvsTo w k = [] ∧ rleast w k = 9 ∧ rmost w k = 0) ∨ (lvsTo w k ≠ [] ∧ rleast w k = minL (lvsTo w k) ∧ rmost w k = maxL (lvsTo w k))
  | 0, _ => .inl ⟨rfl, rfl, rfl⟩
  | k + 1, hk => by
    have ih := levels_eq a0 a1 h k (by omega)
    have hb := has_bit (i := (k : Int)) a0 a1 (by omega) (by omega)
    have hl := h k (by omega)
    simp only [lvsTo, rleast, rmost, ← hb]
    cases hc : hasC w.alive (k : Int) with
    | false => simpa using ih
    | true =>
      simp only [if_true]
      refine .inr ⟨by simp, ?_⟩
      rw [minL_snoc, maxL_snoc]
      obtain ⟨h1, h2, h3⟩ | ⟨h1, h2, h3⟩ := ih
      · rw [if_pos h1, if_pos h1, h2, h3]; omega
      · rw [if_neg h1, if_neg h1, h2, h3]; exact ⟨rfl, rfl⟩
theorem lvs_none {w : Wd} (a0 : 0 ≤ w.alive) (a1 : w.alive ≤ 255) : lvsTo w 8 = [] ↔ w.alive = 0 := by
  constructor
  · intro h
    rcases Int.lt_or_le w.alive 1 with h1 | h1
    · omega
    · obtain ⟨j, hj, hb⟩ := bit_first h1 a1
      rw [← has_bit a0 a1 (by omega) (by omega)] at hb
      have := lvs_in hj hb
      rw [h] at this; cases this
  · intro h
    cases hl : lvsTo w 8 with
    | nil => rfl
    | cons x r =>
      obtain ⟨j, hj, hb, _⟩ := lvs_mem (w := w) (k := 8) (x := x) (by rw [hl]; exact List.mem_cons_self)
      rw [h] at hb
      have : j = 0 ∨ j = 1 ∨ j = 2 ∨ j = 3 ∨ j = 4 ∨ j = 5 ∨ j = 6 ∨ j = 7 := by omega
      rcases this with rfl | rfl | rfl | rfl | rfl | rfl | rfl | rfl <;> exact absurd hb dQ
theorem inR_inM (n l h : Int) : inR n l h = inM n l h := by simp only [inR, inM, ge_iff_le]
theorem rvalidW_eq (w : Wd) : rvalidW w = validW w := by
  rw [Bool.eq_iff_iff, valid_iff]
  have conv : ∀ {al : Int}, 0 ≤ w.alive → w.alive ≤ 255 → rvalid w.blocks = true → ((List.range w.blocks.length).any (rdead w) = false ↔ (List.range w.blocks.length).any (deadAt w) = false) := fun a0 a1 hb => by
    have : ∀ k, k < w.blocks.length → rdead w k = deadAt w k := fun k hk => by
      rw [rvalid_eq] at hb
      have hc := can_car (valid_can hb) (w.blocks.getD k dB) (by rw [List.getD_eq_getElem?_getD, List.getElem?_eq_getElem hk]; exact List.getElem_mem hk)
      simp only [rdead, deadAt]; rw [has_bit a0 a1 hc.1 hc.2]
    rw [List.any_eq_false, List.any_eq_false]
    constructor <;> (intro h x hx; have := this x (List.mem_range.1 hx); have := h x hx; simp_all)
  have okc : ∀ j, j < 8 → 0 ≤ w.alive → w.alive ≤ 255 → (rbadL w j = false ↔ okAt w j = true) := fun j hj a0 a1 => by
    have := has_bit (i := (j : Int)) a0 a1 (by omega) (by omega)
    simp only [rbadL, okAt, moneyOk, inR_inM, this]
    cases inM (w.bal.getD j 0) (-1000000000000) 1000000000000 <;> cases inM (w.lev.getD j 0) 0 9 <;> cases bitM w.alive (j : Int) <;> simp
  have lvc : 0 ≤ w.alive → w.alive ≤ 255 → (∀ j, j < 8 → okAt w j = true) → ((w.alive = 0 ∨ rmost w 8 - rleast w 8 ≤ 1) ↔ ((lvsTo w 8).length = 0 ∨ maxL (lvsTo w 8) - minL (lvsTo w 8) ≤ 1)) := fun a0 a1 ho => by
    have hl : ∀ j, j < 8 → 0 ≤ w.lev.getD j 0 ∧ w.lev.getD j 0 ≤ 9 := fun j hj => by
      have := ho j hj; simp only [okAt, Bool.and_eq_true, inM, decide_eq_true_eq] at this; exact this.1.2
    rw [← lvs_none a0 a1, List.length_eq_zero_iff]
    obtain ⟨h1, h2, h3⟩ | ⟨h1, h2, h3⟩ := levels_eq a0 a1 hl 8 (Nat.le_refl _)
    · exact ⟨fun _ => .inl h1, fun _ => .inl h1⟩
    · rw [h2, h3]
  constructor
  · intro h
    simp only [rvalidW, rhead, Bool.and_eq_true, Bool.or_eq_true, decide_eq_true_eq, Bool.not_eq_true', inR_inM] at h
    obtain ⟨⟨⟨⟨⟨⟨⟨⟨⟨h1, h2⟩, h3⟩, h4⟩, h5⟩, h6⟩, h7⟩, h8⟩, h9⟩, h10⟩ := h
    have q1 := h1; have q2 := h2
    simp only [inM, Bool.and_eq_true, decide_eq_true_eq] at q1 q2
    have hok : ∀ j, j < 8 → okAt w j = true := fun j hj => (okc j hj q1.1 q1.2).1 (by rw [List.any_eq_false] at h8; simpa using h8 j (List.mem_range.2 hj))
    exact ⟨h2, (not_sub q1.1 q1.2 q2.1 q2.2).1 h3, q1.1, by omega, by omega, by rw [← rvalid_eq]; exact h4, (conv (al := 0) q1.1 q1.2 h4).1 h7, hok, h9, (lvc q1.1 q1.2 hok).1 h10⟩
  · intro h
    obtain ⟨a0, a1⟩ := alive_range h
    have he := h.ever
    have q2 := he
    simp only [inM, Bool.and_eq_true, decide_eq_true_eq] at q2
    have hb : rvalid w.blocks = true := by rw [rvalid_eq]; exact h.blk
    have h8 : (List.range 8).any (rbadL w) = false := any_no fun j hj => (okc j hj a0 a1).2 (h.ok j hj)
    simp only [rvalidW, rhead, Bool.and_eq_true, Bool.or_eq_true, decide_eq_true_eq, Bool.not_eq_true', inR_inM]
    have := h.lb; have := h.ll
    exact ⟨⟨⟨⟨⟨⟨⟨⟨⟨by simp [inM]; omega, he⟩, (not_sub a0 a1 q2.1 q2.2).2 h.sub⟩, hb⟩, by omega⟩, by omega⟩, (conv (al := 0) a0 a1 hb).2 h.dead⟩, h8⟩, h.sum⟩, (lvc a0 a1 h.ok).2 h.lv⟩
end Go.Proofs.YtnoicbajhlpndaaGreat
/- The walk of the reference's Copy. -/
namespace Go.Proofs.YtnoicbajhlpndaaGreat
open Go Go.RowKit Go.Shelf Hp
set_option maxRecDepth 10000
set_option maxHeartbeats 1000000
set_option linter.unusedVariables false
set_option linter.unusedSimpArgs false
attribute [local irreducible] WP WPs FnX IterX YdX RetP PanP Ch Back Join

theorem copy42_spec (w : Wd) (f1 f2 f3 : Bool) (hbl : w.blocks.length ≤ 1000000000) (hb : w.bal.length = 8) (hl : w.lev.length = 8) : Fc Tryz.prog 57 [encW w f1 f2 f3] []
  (fun r h' => ∃ f b1 b2 c1 c2, 8 ≤ c1 ∧ 8 ≤ c2 ∧ r = .agg [I w.alive, I w.ever, V (w.blocks.map encB) f, .os b1 1 0 8 c1, .os b2 1 0 8 c2] ∧ h' = [(b1, .arr 3 1 (w.bal.map encI) c1), (b2, .arr 3 1 (w.lev.map encI) c2)]) := by
 refine fnE_intro (N := 19) Tryz.func57 rfl rfl rfl ?_
 intro X
 refine h_seq<|H<|o_box Z Z K fun x1 => o_alloc K fun x2 => o_nil ?_
 by_cases hbe : w.blocks = []
 ·
  refine h_seq<|H<|o_buildSlicep Z (by rfl) (by rfl) (by rfl) (by rfl) K ?_
  refine F Z Z K K<|O 1 Z Z Z Z K<|o_append00 Z Z (by simp [hbe]) K ?_
  refine F Z Z K K ?_
  refine o_store 1 Z Z Z Z Z Z<|o_nil<|h_seq<|H<|o_buildSlicep Z (by rfl) (by rfl) (by rfl) (by rfl) K ?_
  refine F Z Z K K<|O 1 Z Z Z Z K<|o_appendv Z Z (Src.v _ _) okB_I (by simp [chunk]) (by simp [hb, hl]) (by simp [chunk, hb, hl] <;> omega) K fun x3 c4 hc5 => ?_
  refine F Z Z K K ?_
  refine o_store 2 Z Z Z Z Z Z<|o_nil<|h_seq<|H<|o_buildSlicep Z (by rfl) (by rfl) (by rfl) (by rfl) K ?_
  refine F Z Z K K<|O 2 Z Z Z Z K<|o_appendv Z Z (Src.v _ _) okB_I (by simp [chunk]) (by simp [hb, hl]) (by simp [chunk, hb, hl] <;> omega) K fun x6 c7 hc8 => ?_
  refine F Z Z K K ?_
  refine o_store 3 Z Z Z Z Z Z<|o_nil<|h_seq<|H<|O 3 Z Z Z Z K ?_
  exact o_store 2 Z Z Z Z Z Z<|o_nil<|h_ret<|retGP [_, _] [_, _] (.cons (resC 2 rfl rfl rfl) .nil) (.swap _ _ _) (.cons_cons _ (.cons_cons _ (.cons _ (.cons _ (.refl _))))) ⟨_, rfl, true, x3, x6, c4, c7, (by simpa [chunk, hb] using hc5), (by simpa [chunk, hl] using hc8), (by simp [chunk, hb, hl, hbe]; rfl), by simp [chunk]⟩
 ·
  refine h_seq<|H<|o_buildSlicep Z (by rfl) (by rfl) (by rfl) (by rfl) K ?_
  refine F Z Z K K<|O 1 Z Z Z Z K<|o_appendp Z Z (Src.v _ _) okB_B (by simp [chunk]) (by simp; exact List.length_pos_iff.2 hbe) (by simp [chunk, hb, hl] <;> omega) K ?_
  refine F Z Z K K ?_
  refine o_store 1 Z Z Z Z Z Z<|o_nil<|h_seq<|H<|o_buildSlicep Z (by rfl) (by rfl) (by rfl) (by rfl) K ?_
  refine F Z Z K K<|O 1 Z Z Z Z K<|o_appendv Z Z (Src.v _ _) okB_I (by simp [chunk]) (by simp [hb, hl]) (by simp [chunk, hb, hl] <;> omega) K fun x9 c10 hc11 => ?_
  refine F Z Z K K ?_
  refine o_store 2 Z Z Z Z Z Z<|o_nil<|h_seq<|H<|o_buildSlicep Z (by rfl) (by rfl) (by rfl) (by rfl) K ?_
  refine F Z Z K K<|O 2 Z Z Z Z K<|o_appendv Z Z (Src.v _ _) okB_I (by simp [chunk]) (by simp [hb, hl]) (by simp [chunk, hb, hl] <;> omega) K fun x12 c13 hc14 => ?_
  refine F Z Z K K ?_
  refine o_store 3 Z Z Z Z Z Z<|o_nil<|h_seq<|H<|O 3 Z Z Z Z K ?_
  exact o_store 2 Z Z Z Z Z Z<|o_nil<|h_ret<|retGP [_, _] [_, _] (.cons (resC 2 rfl rfl rfl) .nil) (.swap _ _ _) (.cons_cons _ (.cons_cons _ (.cons _ (.cons _ (.refl _))))) ⟨_, rfl, false, x9, x12, c10, c13, (by simpa [chunk, hb] using hc11), (by simpa [chunk, hl] using hc14), (by simp [chunk, hb, hl]; rfl), by simp [chunk]⟩

end Go.Proofs.YtnoicbajhlpndaaGreat
