/- The walks of the reference implementations' small functions. -/
import Derived.Test.YtnoicbajhlpndaaGreatMergeC
namespace Go.Proofs.YtnoicbajhlpndaaGreat
open Go Go.RowKit Go.Shelf Hp
set_option maxRecDepth 10000
set_option maxHeartbeats 1000000
set_option linter.unusedVariables false
set_option linter.unusedSimpArgs false
attribute [local irreducible] WP WPs FnX IterX YdX RetP PanP Ch Back Join
def pickM (c n : Int) : Int := if c < 0 then (-(c + 1)).tmod n else c.tmod n
theorem pickM_range {c n : Int} (hn : 0 < n) : 0 ≤ pickM c n ∧ pickM c n < n := by
  unfold pickM
  split
  · exact ⟨Int.tmod_nonneg _ (by omega), Int.tmod_lt_of_pos _ hn⟩
  · exact ⟨Int.tmod_nonneg _ (by omega), Int.tmod_lt_of_pos _ hn⟩
def bitM (s i : Int) : Bool := decide ((s / 2 ^ i.toNat).tmod 2 = 1)
def inR (n low high : Int) : Bool := decide (n ≥ low) && decide (n ≤ high)

theorem pick13_spec (c n : Int) (hc : in64 c) (hn : n ≠ 0) : Fn1 Tryz.prog 96 [I c, I n] (I (pickM c n)) := by
 refine fnE_intro (N := 13) Tryz.func96 rfl rfl rfl ?_
 intro X
 refine h_seq<|H<|S Z K<|o_nil<|h_seq<|h_seq<|H<|G Z K<|o_cmp Z Z Z K<|o_nil<|h_cond Z (fun c2 => ?_) (fun c2 => ?_)
 ·
  refine H<|G Z K<|o_add Z Z (by unfold in64 at *; (try dsimp only); simp_all <;> omega) K ?_
  refine o_neg Z (by unfold in64 at *; (try dsimp only); simp_all <;> omega) K ?_
  exact S Z K<|o_nil<|h_seq<|H<|G Z K<|G Z K<|o_rem Z Z hn K<|S Z K<|o_nil<|h_ret<|ret1' Z (I_eq (by unfold pickM; simp only [decide_eq_true_eq, decide_eq_false_iff_not] at *; first | rw [if_pos (by assumption)] | rw [if_neg (by assumption)]))
 ·
  exact h_skip<|h_seq<|H<|G Z K<|G Z K<|o_rem Z Z hn K<|S Z K<|o_nil<|h_ret<|ret1' Z (I_eq (by unfold pickM; simp only [decide_eq_true_eq, decide_eq_false_iff_not] at *; first | rw [if_pos (by assumption)] | rw [if_neg (by assumption)]))

theorem pick42_spec (c n : Int) (hc : in64 c) (hn : n ≠ 0) : Fn1 Tryz.prog 58 [I c, I n] (I (pickM c n)) := by
 refine fnE_intro (N := 13) Tryz.func58 rfl rfl rfl ?_
 intro X
 refine h_seq<|H<|S Z K<|o_nil<|h_seq<|h_seq<|H<|G Z K<|o_cmp Z Z Z K<|o_nil<|h_cond Z (fun c4 => ?_) (fun c4 => ?_)
 ·
  refine H<|G Z K<|o_add Z Z (by unfold in64 at *; (try dsimp only); simp_all <;> omega) K ?_
  refine o_neg Z (by unfold in64 at *; (try dsimp only); simp_all <;> omega) K ?_
  exact S Z K<|o_nil<|h_seq<|H<|G Z K<|G Z K<|o_rem Z Z hn K<|S Z K<|o_nil<|h_ret<|ret1' Z (I_eq (by unfold pickM; simp only [decide_eq_true_eq, decide_eq_false_iff_not] at *; first | rw [if_pos (by assumption)] | rw [if_neg (by assumption)]))
 ·
  exact h_skip<|h_seq<|H<|G Z K<|G Z K<|o_rem Z Z hn K<|S Z K<|o_nil<|h_ret<|ret1' Z (I_eq (by unfold pickM; simp only [decide_eq_true_eq, decide_eq_false_iff_not] at *; first | rw [if_pos (by assumption)] | rw [if_neg (by assumption)]))

theorem pickL_spec (c n : Int) (hc : in64 c) (hn : n ≠ 0) : Fn1 Tryz.prog 23 [I c, I n] (I (pickM c n)) := by
 refine fnE_intro (N := 13) Tryz.func23 rfl rfl rfl ?_
 intro X
 refine h_seq<|H<|S Z K<|o_nil<|h_seq<|h_seq<|H<|G Z K<|o_cmp Z Z Z K<|o_nil<|h_cond Z (fun c6 => ?_) (fun c6 => ?_)
 ·
  refine H<|G Z K<|o_add Z Z (by unfold in64 at *; (try dsimp only); simp_all <;> omega) K ?_
  refine o_neg Z (by unfold in64 at *; (try dsimp only); simp_all <;> omega) K ?_
  exact S Z K<|o_nil<|h_seq<|H<|G Z K<|G Z K<|o_rem Z Z hn K<|S Z K<|o_nil<|h_ret<|ret1' Z (I_eq (by unfold pickM; simp only [decide_eq_true_eq, decide_eq_false_iff_not] at *; first | rw [if_pos (by assumption)] | rw [if_neg (by assumption)]))
 ·
  exact h_skip<|h_seq<|H<|G Z K<|G Z K<|o_rem Z Z hn K<|S Z K<|o_nil<|h_ret<|ret1' Z (I_eq (by unfold pickM; simp only [decide_eq_true_eq, decide_eq_false_iff_not] at *; first | rw [if_pos (by assumption)] | rw [if_neg (by assumption)]))

theorem bit42_spec (s i : Int) (h0 : 0 ≤ i) (h1 : i ≤ 63) : Fn1 Tryz.prog 60 [I s, I i] (B (bitM s i)) := by
 refine fnE_intro (N := 10) Tryz.func60 rfl rfl rfl ?_
 intro X
 refine h_seq<|H<|S Z K<|o_nil<|h_seq<|H<|G Z K<|G Z K<|o_shr Z Z (by omega) (by omega) K<|o_rem Z Z K K<|o_cmp Z Z Z K<|S Z K ?_
 exact o_nil<|h_ret<|ret1' Z Z

theorem in42_spec (n low high : Int) : Fn1 Tryz.prog 76 [I n, I low, I high] (B (inR n low high)) := by
 refine fnE_intro (N := 15) Tryz.func76 rfl rfl rfl ?_
 intro X
 refine h_seq<|H<|S Z K<|o_nil<|h_seq<|H<|G Z K<|G Z K<|o_cmp Z Z Z K<|G Z K<|o_guard Z Z K (fun g10 => ?_) (fun g10 => ?_)
 ·
  have g10 : _ = true := g10
  exact G Z K<|W Z Z g10 K<|G Z K<|W Z Z g10 K<|o_cmp Z Z Z K<|o_pickt Z g10 rfl K<|S Z K<|o_nil<|h_ret<|ret1' Z (B_eq (by unfold inR; simp_all <;> (intros; omega)))
 ·
  have g10 : _ = false := g10
  exact U Z Z g10 K<|U Z Z g10 K<|o_pickf Z g10 rfl K<|S Z K<|o_nil<|h_ret<|ret1' Z (B_eq (by unfold inR; simp_all <;> (intros; omega)))

theorem rrange_spec (f t : Int) : Fn1 Tryz.prog 120 [.agg [I f, I t]] (B (rangeOk f t)) := by
 refine fnE_intro (N := 18) Tryz.func120 rfl rfl rfl ?_
 intro X
 refine h_seq<|H<|o_box Z Z K fun x12 => S Z K<|o_nil<|h_seq<|H<|F Z Z K K<|O 0 Z Z Z Z K<|o_cmp Z Z Z K<|G Z K<|o_guard Z Z K (fun g14 => ?_) (fun g14 => ?_)
 ·
  have g14 : _ = true := g14
  refine F Z Z K K<|W Z Z g14 K<|O 0 Z Z Z Z K<|W Z Z g14 K<|F Z Z K K<|W Z Z g14 K<|O 0 Z Z Z Z K<|W Z Z g14 K<|o_cmp Z Z Z K<|o_pickt Z g14 rfl K<|G Z K<|o_guard Z Z K (fun g16 => ?_) (fun g16 => ?_)
  ·
   have g16 : _ = true := g16
   refine F Z Z K K<|W Z Z g16 K<|O 0 Z Z Z Z K<|W Z Z g16 K<|o_cmp Z Z Z K<|o_pickt Z g16 rfl K<|S Z K<|o_nil<|h_ret<|ret1' Z ?_
   (unfold rangeOk; (refine B_eq ?_; (try simp only [Bool.not_true, Bool.not_false, decide_eq_true_eq, decide_eq_false_iff_not] at *); (first | rfl | (rw [Bool.eq_iff_iff]; simp only [decide_eq_true_eq, Bool.false_eq_true, Bool.true_eq_false, Bool.and_eq_true, Bool.or_eq_true, Bool.not_eq_true', decide_eq_false_iff_not, false_iff, iff_false, true_iff, iff_true]; omega))))
  ·
   have g16 : _ = false := g16
   refine U Z Z g16 K<|U Z Z g16 K<|o_pickf Z g16 rfl K<|S Z K<|o_nil<|h_ret<|ret1' Z ?_
   (unfold rangeOk; (refine B_eq ?_; (try simp only [Bool.not_true, Bool.not_false, decide_eq_true_eq, decide_eq_false_iff_not] at *); (first | rfl | (rw [Bool.eq_iff_iff]; simp only [decide_eq_true_eq, Bool.false_eq_true, Bool.true_eq_false, Bool.and_eq_true, Bool.or_eq_true, Bool.not_eq_true', decide_eq_false_iff_not, false_iff, iff_false, true_iff, iff_true]; omega))))
 ·
  have g14 : _ = false := g14
  refine U Z Z g14 K<|U Z Z g14 K<|U Z Z g14 K<|U Z Z g14 K<|o_pickf Z g14 rfl K<|G Z K<|U Z Z Z K<|U Z Z Z K<|U Z Z Z K<|o_pickf Z Z Z K<|S Z K<|o_nil ?_
  refine h_ret<|ret1' Z ?_
  (unfold rangeOk; (refine B_eq ?_; (try simp only [Bool.not_true, Bool.not_false, decide_eq_true_eq, decide_eq_false_iff_not] at *); (first | rfl | (rw [Bool.eq_iff_iff]; simp only [decide_eq_true_eq, Bool.false_eq_true, Bool.true_eq_false, Bool.and_eq_true, Bool.or_eq_true, Bool.not_eq_true', decide_eq_false_iff_not, false_iff, iff_false, true_iff, iff_true]; omega))))

theorem rcarrier_spec (c : Int) : Fn1 Tryz.prog 123 [I c] (B (carOk c)) := by
 refine fnE_intro (N := 9) Tryz.func123 rfl rfl rfl ?_
 intro X
 refine h_seq<|H<|S Z K<|o_nil<|h_seq<|H<|G Z K<|o_cmp Z Z Z K<|G Z K<|o_guard Z Z K (fun g19 => ?_) (fun g19 => ?_)
 ·
  have g19 : _ = true := g19
  refine G Z K<|W Z Z g19 K<|o_cmp Z Z Z K<|o_pickt Z g19 rfl K<|S Z K<|o_nil<|h_ret<|ret1' Z ?_
  (unfold carOk; (refine B_eq ?_; (try simp only [Bool.not_true, Bool.not_false, decide_eq_true_eq, decide_eq_false_iff_not] at *); (first | rfl | (rw [Bool.eq_iff_iff]; simp only [decide_eq_true_eq, Bool.false_eq_true, Bool.true_eq_false, Bool.and_eq_true, Bool.or_eq_true, Bool.not_eq_true', decide_eq_false_iff_not, false_iff, iff_false, true_iff, iff_true]; omega))))
 ·
  have g19 : _ = false := g19
  refine U Z Z g19 K<|o_pickf Z g19 rfl K<|S Z K<|o_nil<|h_ret<|ret1' Z ?_
  (unfold carOk; (refine B_eq ?_; (try simp only [Bool.not_true, Bool.not_false, decide_eq_true_eq, decide_eq_false_iff_not] at *); (first | rfl | (rw [Bool.eq_iff_iff]; simp only [decide_eq_true_eq, Bool.false_eq_true, Bool.true_eq_false, Bool.and_eq_true, Bool.or_eq_true, Bool.not_eq_true', decide_eq_false_iff_not, false_iff, iff_false, true_iff, iff_true]; omega))))

theorem one_spec (f t c : Int) : Fn1 Tryz.prog 171 [.agg [I f, I t], I c] (V ([(⟨f, t, c⟩ : Blk)].map encB) true) := by
 refine fnE_intro (N := 9) Tryz.func171 rfl rfl rfl ?_
 intro X
 refine h_seq<|H<|o_box Z Z K fun x21 => S Z K<|o_nil<|h_seq<|H<|O 0 Z Z Z Z K<|G Z K<|o_build Z Z K<|o_buildSlicep Z (by rfl) (by rfl) (by rfl) (by rfl) K ?_
 exact S Z K<|o_nil<|h_ret<|ret1' Z Z

theorem eltBk {l : List Blk} {n : Int} (h : n.toNat < l.length) : (l.map encB)[n.toNat]? = some (encB (l.getD n.toNat dB)) := by simp [h]
def hitB (l : List Blk) (n : Int) (k : Nat) : Bool := decide ((l.getD k dB).f ≤ n) && decide (n < (l.getD k dB).t)
def holderR (l : List Blk) (n : Int) : Int := match fst? (hitB l n) l.length 0 with
  | some k => (l.getD k dB).c
  | none => -1
theorem holder_some {l : List Blk} {n : Int} {k : Nat} (hk : k < l.length) (h : hitB l n k = true) (hb : ∀ j, j < k → hitB l n j = false) : holderR l n = (l.getD k dB).c := by
  unfold holderR
  rw [fst_some l.length 0 k (Nat.zero_le _) (by omega) h (fun j _ hj => hb j hj)]
theorem holder_none {l : List Blk} {n : Int} (hb : ∀ j, j < l.length → hitB l n j = false) : holderR l n = -1 := by
  unfold holderR
  rw [fst_none l.length 0 (fun j _ hj => hb j (by omega))]

theorem holder_spec (l : List Blk) (hlen : l.length ≤ 1000000000) (f : Bool) (n : Int) : Fn1 Tryz.prog 198 [V (l.map encB) f, I n] (I (holderR l n)) := by
 refine fnE_intro (N := 35) Tryz.func198 rfl rfl rfl ?_
 intro X
 refine h_seq<|H<|S Z K<|o_nil<|h_seq<|h_seq<|H<|S Z K<|o_nil<|h_block<|h_famS (ι := {k : Nat // k ≤ (l).length ∧ ∀ j, j < k → hitB l n j = false}) (fun i => [(0, V (l.map encB) f), (1, I n), (5, I (i.1 : Nat))]) (fun i => []) (fun i => (l).length - i.1) ⟨0, Nat.zero_le _, fun j hj => absurd hj (Nat.not_lt_zero j)⟩ (.refl _) (subT.cons Z (subT.cons Z (subT.cons Z subT.nil))) ?_
 rintro ⟨k, hk, hok⟩
 dsimp only
 by_cases hlt : k < (l).length
 ·
  refine h_seq<|h_seq<|H<|G Z K<|G Z K<|o_len Z K<|o_cmp Z Z Z K<|o_nil<|h_condt Z (by simp; omega) ?_
  refine h_skip<|h_seq<|h_block<|h_seq<|H<|G Z K<|G Z K<|o_idxv Z Z (by omega) (eltBk (by simpa using hlt)) rfl K ?_
  refine o_faddrv Z Z K rfl K<|o_faddrv Z Z K rfl K<|o_loadv Z Z K<|G Z K<|o_cmp Z Z Z K<|G Z K<|o_guard Z Z K (fun g24 => ?_) (fun g24 => ?_)
  ·
   have g24 : _ = true := g24
   refine G Z K<|W Z Z g24 K<|G Z K<|W Z Z g24 K<|G Z K<|W Z Z g24 K<|o_idxv Z Z (by omega) (eltBk (by simpa using hlt)) rfl K ?_
   refine W Z Z g24 K<|o_faddrv Z Z K rfl K<|W Z Z g24 K<|o_faddrv Z Z K rfl K<|W Z Z g24 K<|o_loadv Z Z K<|W Z Z g24 K<|o_cmp Z Z Z K<|o_pickt Z g24 rfl K<|o_nil<|h_cond Z (fun c26 => ?_) (fun c26 => ?_)
   ·
    refine h_seq<|H<|G Z K<|G Z K<|o_idxv Z Z (by omega) (eltBk (by simpa using hlt)) rfl K ?_
    refine o_faddrv Z Z K rfl K<|o_loadv Z Z K<|S Z K<|o_nil<|h_ret ?_
    have hh : hitB l n k = true := by simp only [hitB, Bool.and_eq_true, decide_eq_true_eq]; simp_all
    exact ret1' Z (I_eq (holder_some hlt hh hok).symm)
   ·
    refine h_skip<|H<|G Z K<|o_add Z Z (by unfold in64; (try dsimp only); omega) K ?_
    refine S Z K<|o_nil ?_
    have hbad : hitB l n k = false := by simp only [hitB, Bool.and_eq_false_iff, decide_eq_false_iff_not]; simp_all
    refine back rfl ⟨k + 1, hlt, fun j hj => (by rcases Nat.lt_succ_iff_lt_or_eq.1 hj with h1 | h1; exact hok j h1; subst h1; exact hbad)⟩ (by dsimp only; omega) (.refl _) (subT.cons Z (subT.cons Z (subT.cons Z subT.nil)))
  ·
   have g24 : _ = false := g24
   refine U Z Z g24 K<|U Z Z g24 K<|U Z Z g24 K<|U Z Z g24 K<|U Z Z g24 K<|U Z Z g24 K<|U Z Z g24 K<|o_pickf Z g24 rfl K<|o_nil<|h_condf Z Z<|h_skip<|H ?_
   refine G Z K<|o_add Z Z (by unfold in64; (try dsimp only); omega) K ?_
   refine S Z K<|o_nil ?_
   have hbad : hitB l n k = false := by simp only [hitB, Bool.and_eq_false_iff, decide_eq_false_iff_not]; simp_all
   refine back rfl ⟨k + 1, hlt, fun j hj => (by rcases Nat.lt_succ_iff_lt_or_eq.1 hj with h1 | h1; exact hok j h1; subst h1; exact hbad)⟩ (by dsimp only; omega) (.refl _) (subT.cons Z (subT.cons Z (subT.cons Z subT.nil)))
 ·
  obtain rfl : k = (l).length := by omega
  refine h_seq<|h_seq<|H<|G Z K<|G Z K<|o_len Z K<|o_cmp Z Z Z K<|o_nil<|h_condf Z (by simp <;> omega) ?_
  exact h_exit<|h_seq<|H<|S Z K<|o_nil<|h_ret<|ret1' Z (I_eq (holder_none hok).symm)

def rbad (l : List Blk) (k : Nat) : Bool := !rangeOk (l.getD k dB).f (l.getD k dB).t || !carOk (l.getD k dB).c ||
  (decide (0 < k) && (decide ((l.getD (k - 1) dB).t > (l.getD k dB).f) || (decide ((l.getD (k - 1) dB).t = (l.getD k dB).f) && decide ((l.getD (k - 1) dB).c = (l.getD k dB).c))))
def rvalid (l : List Blk) : Bool := decide (l.length ≤ 40) && !(List.range l.length).any (rbad l)
theorem prevK {k : Nat} (h : 0 < k) : ((k : Int) - 1).toNat = k - 1 := by omega

theorem rvalid_spec (l : List Blk) (hlen : l.length ≤ 1000000000) (f : Bool) : Fn1 Tryz.prog 67 [V (l.map encB) f] (B (rvalid l)) := by
  refine fnE_intro (N := 77) Tryz.func67 rfl rfl rfl ?_
  intro X
  refine h_seq<|H<|S Z K<|o_nil<|h_seq<|h_seq<|H<|G Z K<|o_len Z K<|o_cmp Z Z Z K<|o_nil<|h_cond Z (fun c29 => ?_) (fun c29 => ?_)
  ·
    refine h_seq<|H<|S Z K<|o_nil<|h_ret<|ret1' Z (B_eq ?_)
    unfold rvalid; rw [decide_eq_false (by have := c29; simp at this; omega)]; rfl
  ·
    refine h_skip<|h_seq<|h_seq<|H<|S Z K<|o_nil<|h_block ?_
    have h40 := c29
    refine h_famS (ι := {k : Nat // k ≤ (l).length ∧ ∀ j, j < k → rbad l j = false}) (fun i => [(0, V (l.map encB) f), (3, I (i.1 : Nat))]) (fun i => []) (fun i => (l).length - i.1) ⟨0, Nat.zero_le _, fun j hj => absurd hj (Nat.not_lt_zero j)⟩ (.refl _) (subT.cons Z (subT.cons Z subT.nil)) ?_
    rintro ⟨k, hk, hok⟩
    dsimp only
    by_cases hlt : k < (l).length
    ·
      refine h_seq<|h_seq<|H<|G Z K<|G Z K<|o_len Z K<|o_cmp Z Z Z K<|o_nil<|h_condt Z (by simp; omega) ?_
      refine h_skip<|h_seq<|h_block<|h_seq<|h_seq<|H<|G Z K<|G Z K<|o_idxv Z Z (by first | omega | (simp_all; omega)) (eltBk (by omega)) rfl K ?_
      refine o_faddrv Z Z K rfl K<|o_loadv Z Z K<|o_call1 Z Z EntC.out K (rrange_spec _ _)<|o_not Z K<|G Z K<|o_guard Z Z K (fun g32 => ?_) (fun g32 => ?_)
      ·
        have g32 : _ = false := g32
        refine G Z K<|W Z Z g32 K<|G Z K<|W Z Z g32 K<|o_idxv Z Z (by first | omega | (simp_all; omega)) (eltBk (by omega)) rfl K ?_
        refine W Z Z g32 K<|o_faddrv Z Z K rfl K<|W Z Z g32 K<|o_loadv Z Z K<|W Z Z g32 K<|o_call1 Z Z EntC.out K (rcarrier_spec _)<|W Z Z g32 K<|o_not Z K<|o_pickf Z g32 rfl K<|o_nil<|h_cond Z (fun c34 => ?_) (fun c34 => ?_)
        ·
          refine h_seq<|H<|S Z K<|o_nil<|h_ret<|ret1' Z (B_eq ?_)
          have hb : rbad l k = true := by
            simp only [rbad]
            rcases Nat.eq_zero_or_pos k with hk0 | hk0
            · subst hk0; simp_all
            · have hp := prevK hk0; simp_all <;> (try omega)
          have ha : (List.range l.length).any (rbad l) = true := List.any_eq_true.2 ⟨k, List.mem_range.2 hlt, hb⟩
          unfold rvalid; rw [ha]; simp
        ·
          refine h_skip<|h_seq<|h_draw _ (List.nil_sublist _) [(0, .flo), (1, .flo), (2, .flo), (3, .flo), (4, .flo), (5, .flo), (6, .flo), (7, .flo), (8, .flo), (9, .val), (10, .flo), (11, .flo), (12, .flo), (13, .flo), (14, .flo), (15, .val), (16, .flo), (17, .flo), (18, .flo), (19, .flo), (20, .flo), (21, .flo), (22, .flo), (23, .flo), (24, .val), (25, .flo), (26, .flo), (27, .flo), (28, .flo), (29, .flo), (30, .val), (31, .flo), (32, .flo), (33, .flo), (34, .flo), (35, .flo), (36, .flo), (37, .flo), (38, .val), (39, .flo), (40, .flo), (41, .flo), (42, .flo), (43, .val), (44, .flo), (45, .flo), (46, .flo), (47, .flo)] mixed (by kernel_rfl)<|C Z Z (fun jj => G Z K jj)<|C Z Z (fun jj => o_cmp Z Z Z K jj)<|C Z Z (fun jj => G Z K jj)<|c_split (t := 31) rfl (fun g36 => ?_) (fun g36 => ?_)
          ·
            have g36 : _ = true := g36
            refine C Z Z (fun jj => W Z Z g36 K (G Z K jj))<|C Z Z (fun jj => W Z Z g36 K (G Z K jj))<|C Z Z (fun jj => W Z Z g36 K (o_sub Z Z (by unfold in64; (try dsimp only); omega) K jj)) ?_
            refine C Z Z (fun jj => W Z Z g36 K (o_idxv Z Z (by first | omega | (simp_all; omega)) (eltBk (by omega)) rfl K jj)) ?_
            refine C Z Z (fun jj => W Z Z g36 K (o_faddrv Z Z K rfl K jj))<|C Z Z (fun jj => W Z Z g36 K (o_faddrv Z Z K rfl K jj))<|c_val Z Z (fun _ _ _ _ jj => W Z Z g36 K (o_loadv Z Z K jj))<|C Z Z (fun jj => W Z Z g36 K (G Z K jj))<|C Z Z (fun jj => W Z Z g36 K (G Z K jj))<|C Z Z (fun jj => W Z Z g36 K (o_idxv Z Z (by first | omega | (simp_all; omega)) (eltBk (by omega)) rfl K jj)) ?_
            refine C Z Z (fun jj => W Z Z g36 K (o_faddrv Z Z K rfl K jj))<|C Z Z (fun jj => W Z Z g36 K (o_faddrv Z Z K rfl K jj))<|c_val Z Z (fun _ _ _ _ jj => W Z Z g36 K (o_loadv Z Z K jj))<|C Z Z (fun jj => W Z Z g36 K (o_cmp Z Z Z K jj))<|C Z Z (fun jj => W Z Z g36 K (G Z K jj))<|c_split (t := 46) rfl (fun g38 => ?_) (fun g38 => ?_)
            ·
              have g38 : _ = true := g38
              refine C Z Z (fun jj => U Z Z g38 K jj)<|C Z Z (fun jj => U Z Z g38 K jj)<|C Z Z (fun jj => U Z Z g38 K jj)<|C Z Z (fun jj => U Z Z g38 K jj)<|C Z Z (fun jj => U Z Z g38 K jj)<|C Z Z (fun jj => U Z Z g38 K jj)<|c_val Z Z (fun _ _ _ _ jj => U Z Z g38 K jj)<|C Z Z (fun jj => U Z Z g38 K jj)<|C Z Z (fun jj => U Z Z g38 K jj)<|C Z Z (fun jj => U Z Z g38 K jj)<|C Z Z (fun jj => U Z Z g38 K jj)<|C Z Z (fun jj => U Z Z g38 K jj) ?_
              refine c_val Z Z (fun _ _ _ _ jj => U Z Z g38 K jj)<|C Z Z (fun jj => U Z Z g38 K jj)<|C Z Z (fun jj => U Z Z g38 K jj)<|C Z Z (fun jj => o_guardx Z Z K jj)<|C Z Z (fun jj => o_guardx Z Z K jj)<|C Z Z (fun jj => o_guardx Z Z K jj)<|C Z Z (fun jj => o_guardx Z Z K jj)<|C Z Z (fun jj => o_guardx Z Z K jj)<|c_val Z Z (fun _ _ _ _ jj => o_guardx Z Z K jj)<|C Z Z (fun jj => o_guardx Z Z K jj)<|C Z Z (fun jj => o_guardx Z Z K jj)<|C Z Z (fun jj => o_guardx Z Z K jj) ?_
              refine C Z Z (fun jj => o_guardx Z Z K jj)<|c_val Z Z (fun _ _ _ _ jj => o_guardx Z Z K jj)<|C Z Z (fun jj => o_guardx Z Z K jj)<|C Z Z (fun jj => U Z Z g38 K jj)<|C Z Z (fun jj => W Z Z g36 K (o_pickt Z g38 rfl K jj))<|C Z Z (fun jj => o_pickt Z g36 rfl K jj)<|c_nil<|h_condt Z Z<|h_seq<|H<|S Z K<|o_nil ?_
              refine h_ret<|ret1' Z (B_eq ?_)
              have hb : rbad l k = true := by
                simp only [rbad]
                rcases Nat.eq_zero_or_pos k with hk0 | hk0
                · subst hk0; simp_all
                · have hp := prevK hk0; simp_all <;> (try omega)
              have ha : (List.range l.length).any (rbad l) = true := List.any_eq_true.2 ⟨k, List.mem_range.2 hlt, hb⟩
              unfold rvalid; rw [ha]; simp
            ·
              have g38 : _ = false := g38
              refine C Z Z (fun jj => W Z Z g38 K (G Z K jj))<|C Z Z (fun jj => W Z Z g38 K (G Z K jj))<|C Z Z (fun jj => W Z Z g38 K (o_sub Z Z (by unfold in64; (try dsimp only); omega) K jj)) ?_
              refine C Z Z (fun jj => W Z Z g38 K (o_idxv Z Z (by first | omega | (simp_all; omega)) (eltBk (by omega)) rfl K jj)) ?_
              refine C Z Z (fun jj => W Z Z g38 K (o_faddrv Z Z K rfl K jj))<|C Z Z (fun jj => W Z Z g38 K (o_faddrv Z Z K rfl K jj))<|c_val Z Z (fun _ _ _ _ jj => W Z Z g38 K (o_loadv Z Z K jj))<|C Z Z (fun jj => W Z Z g38 K (G Z K jj))<|C Z Z (fun jj => W Z Z g38 K (G Z K jj))<|C Z Z (fun jj => W Z Z g38 K (o_idxv Z Z (by first | omega | (simp_all; omega)) (eltBk (by omega)) rfl K jj)) ?_
              refine C Z Z (fun jj => W Z Z g38 K (o_faddrv Z Z K rfl K jj))<|C Z Z (fun jj => W Z Z g38 K (o_faddrv Z Z K rfl K jj))<|c_val Z Z (fun _ _ _ _ jj => W Z Z g38 K (o_loadv Z Z K jj))<|C Z Z (fun jj => W Z Z g38 K (o_cmp Z Z Z K jj))<|C Z Z (fun jj => W Z Z g38 K (G Z K jj))<|c_split (t := 61) rfl (fun g40 => ?_) (fun g40 => ?_)
              ·
                have g40 : _ = true := g40
                refine C Z Z (fun jj => W Z Z g40 K (G Z K jj))<|C Z Z (fun jj => W Z Z g40 K (G Z K jj))<|C Z Z (fun jj => W Z Z g40 K (o_sub Z Z (by unfold in64; (try dsimp only); omega) K jj)) ?_
                refine C Z Z (fun jj => W Z Z g40 K (o_idxv Z Z (by first | omega | (simp_all; omega)) (eltBk (by omega)) rfl K jj)) ?_
                refine C Z Z (fun jj => W Z Z g40 K (o_faddrv Z Z K rfl K jj))<|c_val Z Z (fun _ _ _ _ jj => W Z Z g40 K (o_loadv Z Z K jj))<|C Z Z (fun jj => W Z Z g40 K (G Z K jj))<|C Z Z (fun jj => W Z Z g40 K (G Z K jj))<|C Z Z (fun jj => W Z Z g40 K (o_idxv Z Z (by first | omega | (simp_all; omega)) (eltBk (by omega)) rfl K jj)) ?_
                refine C Z Z (fun jj => W Z Z g40 K (o_faddrv Z Z K rfl K jj))<|c_val Z Z (fun _ _ _ _ jj => W Z Z g40 K (o_loadv Z Z K jj))<|C Z Z (fun jj => W Z Z g40 K (o_cmp Z Z Z K jj))<|C Z Z (fun jj => W Z Z g38 K (o_pickt Z g40 rfl K jj))<|C Z Z (fun jj => W Z Z g36 K (o_pickf Z g38 rfl K jj))<|C Z Z (fun jj => o_pickt Z g36 rfl K jj)<|c_nil<|h_cond Z (fun c42 => ?_) (fun c42 => ?_)
                ·
                  refine h_seq<|H<|S Z K<|o_nil<|h_ret<|ret1' Z (B_eq ?_)
                  have hb : rbad l k = true := by
                    simp only [rbad]
                    rcases Nat.eq_zero_or_pos k with hk0 | hk0
                    · subst hk0; simp_all
                    · have hp := prevK hk0; simp_all <;> (try omega)
                  have ha : (List.range l.length).any (rbad l) = true := List.any_eq_true.2 ⟨k, List.mem_range.2 hlt, hb⟩
                  unfold rvalid; rw [ha]; simp
                ·
                  refine h_skip<|H<|G Z K<|o_add Z Z (by unfold in64; (try dsimp only); omega) K ?_
                  refine S Z K<|o_nil ?_
                  have hbad : rbad l k = false := by
                    simp only [rbad]
                    rcases Nat.eq_zero_or_pos k with hk0 | hk0
                    · subst hk0; simp_all
                    · have hp := prevK hk0; simp_all <;> (try omega)
                  refine back rfl ⟨k + 1, hlt, fun j hj => (by rcases Nat.lt_succ_iff_lt_or_eq.1 hj with h1 | h1; exact hok j h1; subst h1; exact hbad)⟩ (by dsimp only; omega) (.refl _) (subT.cons Z (subT.cons Z subT.nil))
              ·
                have g40 : _ = false := g40
                refine C Z Z (fun jj => U Z Z g40 K jj)<|C Z Z (fun jj => U Z Z g40 K jj)<|C Z Z (fun jj => U Z Z g40 K jj)<|C Z Z (fun jj => U Z Z g40 K jj)<|C Z Z (fun jj => U Z Z g40 K jj)<|c_val Z Z (fun _ _ _ _ jj => U Z Z g40 K jj)<|C Z Z (fun jj => U Z Z g40 K jj)<|C Z Z (fun jj => U Z Z g40 K jj)<|C Z Z (fun jj => U Z Z g40 K jj)<|C Z Z (fun jj => U Z Z g40 K jj)<|c_val Z Z (fun _ _ _ _ jj => U Z Z g40 K jj)<|C Z Z (fun jj => U Z Z g40 K jj) ?_
                refine C Z Z (fun jj => W Z Z g38 K (o_pickf Z g40 rfl K jj))<|C Z Z (fun jj => W Z Z g36 K (o_pickf Z g38 rfl K jj))<|C Z Z (fun jj => o_pickt Z g36 rfl K jj)<|c_nil<|h_condf Z Z<|h_skip<|H<|G Z K<|o_add Z Z (by unfold in64; (try dsimp only); omega) K ?_
                refine S Z K<|o_nil ?_
                have hbad : rbad l k = false := by
                  simp only [rbad]
                  rcases Nat.eq_zero_or_pos k with hk0 | hk0
                  · subst hk0; simp_all
                  · have hp := prevK hk0; simp_all <;> (try omega)
                refine back rfl ⟨k + 1, hlt, fun j hj => (by rcases Nat.lt_succ_iff_lt_or_eq.1 hj with h1 | h1; exact hok j h1; subst h1; exact hbad)⟩ (by dsimp only; omega) (.refl _) (subT.cons Z (subT.cons Z subT.nil))
          ·
            have g36 : _ = false := g36
            refine C Z Z (fun jj => U Z Z g36 K jj)<|C Z Z (fun jj => U Z Z g36 K jj)<|C Z Z (fun jj => U Z Z g36 K jj)<|C Z Z (fun jj => U Z Z g36 K jj)<|C Z Z (fun jj => U Z Z g36 K jj)<|C Z Z (fun jj => U Z Z g36 K jj)<|c_val Z Z (fun _ _ _ _ jj => U Z Z g36 K jj)<|C Z Z (fun jj => U Z Z g36 K jj)<|C Z Z (fun jj => U Z Z g36 K jj)<|C Z Z (fun jj => U Z Z g36 K jj)<|C Z Z (fun jj => U Z Z g36 K jj)<|C Z Z (fun jj => U Z Z g36 K jj) ?_
            refine c_val Z Z (fun _ _ _ _ jj => U Z Z g36 K jj)<|C Z Z (fun jj => U Z Z g36 K jj)<|C Z Z (fun jj => U Z Z g36 K jj)<|C Z Z (fun jj => o_guardx Z Z K jj)<|C Z Z (fun jj => o_guardx Z Z K jj)<|C Z Z (fun jj => o_guardx Z Z K jj)<|C Z Z (fun jj => o_guardx Z Z K jj)<|C Z Z (fun jj => o_guardx Z Z K jj)<|C Z Z (fun jj => o_guardx Z Z K jj)<|c_val Z Z (fun _ _ _ _ jj => o_guardx Z Z K jj)<|C Z Z (fun jj => o_guardx Z Z K jj)<|C Z Z (fun jj => o_guardx Z Z K jj) ?_
            refine C Z Z (fun jj => o_guardx Z Z K jj)<|C Z Z (fun jj => o_guardx Z Z K jj)<|C Z Z (fun jj => o_guardx Z Z K jj)<|c_val Z Z (fun _ _ _ _ jj => o_guardx Z Z K jj)<|C Z Z (fun jj => o_guardx Z Z K jj)<|C Z Z (fun jj => o_guardx Z Z K jj)<|C Z Z (fun jj => o_guardx Z Z K jj)<|C Z Z (fun jj => o_guardx Z Z K jj)<|C Z Z (fun jj => o_guardx Z Z K jj)<|C Z Z (fun jj => o_guardx Z Z K jj)<|C Z Z (fun jj => o_guardx Z Z K jj)<|c_val Z Z (fun _ _ _ _ jj => o_guardx Z Z K jj) ?_
            refine C Z Z (fun jj => o_guardx Z Z K jj)<|C Z Z (fun jj => o_guardx Z Z K jj)<|C Z Z (fun jj => o_guardx Z Z K jj)<|C Z Z (fun jj => o_guardx Z Z K jj)<|c_val Z Z (fun _ _ _ _ jj => o_guardx Z Z K jj)<|C Z Z (fun jj => o_guardx Z Z K jj)<|C Z Z (fun jj => o_guardx Z Z K jj)<|C Z Z (fun jj => U Z Z g36 K jj)<|C Z Z (fun jj => o_pickf Z g36 rfl K jj)<|c_nil<|h_condf Z Z<|h_skip ?_
            refine H<|G Z K<|o_add Z Z (by unfold in64; (try dsimp only); omega) K ?_
            refine S Z K<|o_nil ?_
            have hbad : rbad l k = false := by
              simp only [rbad]
              rcases Nat.eq_zero_or_pos k with hk0 | hk0
              · subst hk0; simp_all
              · have hp := prevK hk0; simp_all <;> (try omega)
            refine back rfl ⟨k + 1, hlt, fun j hj => (by rcases Nat.lt_succ_iff_lt_or_eq.1 hj with h1 | h1; exact hok j h1; subst h1; exact hbad)⟩ (by dsimp only; omega) (.refl _) (subT.cons Z (subT.cons Z subT.nil))
      ·
        have g32 : _ = true := g32
        refine U Z Z g32 K<|U Z Z g32 K<|U Z Z g32 K<|U Z Z g32 K<|U Z Z g32 K<|U Z Z g32 K<|o_pickt Z g32 rfl K<|o_nil<|h_condt Z Z<|h_seq<|H<|S Z K ?_
        refine o_nil<|h_ret<|ret1' Z (B_eq ?_)
        have hb : rbad l k = true := by
          simp only [rbad]
          rcases Nat.eq_zero_or_pos k with hk0 | hk0
          · subst hk0; simp_all
          · have hp := prevK hk0; simp_all <;> (try omega)
        have ha : (List.range l.length).any (rbad l) = true := List.any_eq_true.2 ⟨k, List.mem_range.2 hlt, hb⟩
        unfold rvalid; rw [ha]; simp
    ·
      obtain rfl : k = (l).length := by omega
      refine h_seq<|h_seq<|H<|G Z K<|G Z K<|o_len Z K<|o_cmp Z Z Z K<|o_nil<|h_condf Z (by simp <;> omega) ?_
      refine h_exit<|h_seq<|H<|S Z K<|o_nil<|h_ret<|ret1' Z (B_eq ?_)
      have ha : (List.range l.length).any (rbad l) = false := by rw [List.any_eq_false]; intro j hj; rw [hok j (List.mem_range.1 hj)]; simp
      unfold rvalid; rw [ha, decide_eq_true (by have := h40; simp at this; omega)]; rfl

end Go.Proofs.YtnoicbajhlpndaaGreat
/- The walks of the reference's sorted edges. -/
namespace Go.Proofs.YtnoicbajhlpndaaGreat
open Go Go.RowKit Go.Shelf Hp
set_option maxRecDepth 10000
set_option maxHeartbeats 1000000
set_option linter.unusedVariables false
set_option linter.unusedSimpArgs false
attribute [local irreducible] WP WPs FnX IterX YdX RetP PanP Ch Back Join
def stopP (l : List Int) (n : Int) (k : Nat) : Bool := !decide (l.getD k 0 < n)
def posP (l : List Int) (n : Int) : Nat := match fst? (stopP l n) l.length 0 with
  | some k => k
  | none => l.length
theorem posP_some {l : List Int} {n : Int} {k : Nat} (hk : k < l.length) (h : stopP l n k = true) (hb : ∀ j, j < k → stopP l n j = false) : posP l n = k := by
  unfold posP
  rw [fst_some l.length 0 k (Nat.zero_le _) (by omega) h (fun j _ hj => hb j hj)]
theorem posP_none {l : List Int} {n : Int} (hb : ∀ j, j < l.length → stopP l n j = false) : posP l n = l.length := by
  unfold posP
  rw [fst_none l.length 0 (fun j _ hj => hb j (by omega))]
def putM (l : List Int) (n : Int) : List Int := if posP l n < l.length ∧ l.getD (posP l n) 0 = n then l else l.take (posP l n) ++ n :: l.drop (posP l n)
theorem putM_len (l : List Int) (n : Int) : (putM l n).length ≤ l.length + 1 := by
  unfold putM; split
  · omega
  · simp; omega
theorem okB_In {l : List Int} {k : Nat} {n : Int} : ∀ z ∈ [encI n] ++ (l.map encI).drop k, okB 1 z = true := by
  intro z hz
  rcases List.mem_append.1 hz with h | h
  · simp at h; subst h; rfl
  · obtain ⟨x, _, rfl⟩ := List.mem_map.1 (List.mem_of_mem_drop h); rfl
theorem eltIn {l : List Int} {n : Int} (h : n.toNat < l.length) : (l.map encI)[n.toNat]? = some (encI (l.getD n.toNat 0)) := by simp [h]
theorem put_enc {l : List Int} {n : Int} {k : Nat} (hk : k ≤ l.length) : (l.map encI).take ((k : Nat) : Int).toNat ++ ([encI n] ++ (l.map encI).drop ((k : Nat) : Int).toNat) = (l.take k ++ n :: l.drop k).map encI := by
  simp

theorem put_spec (l : List Int) (hlen : l.length ≤ 10000000000) (f : Bool) (n : Int) : Fc Tryz.prog 216 [V (l.map encI) f, I n] [] (fun r h' => (∃ f', r = V ((putM l n).map encI) f') ∧ h' = []) := by
 refine fnE_intro (N := 44) Tryz.func216 rfl rfl rfl ?_
 intro X
 refine h_seq<|H<|S Z K<|o_nil<|h_seq<|H<|S Z K<|o_nil<|h_seq<|h_block<|h_famS (ι := {k : Nat // k ≤ (l).length ∧ ∀ j, j < k → stopP l n j = false}) (fun i => [(0, V (l.map encI) f), (1, I n), (5, I (i.1 : Nat))]) (fun i => []) (fun i => (l).length - i.1) ⟨0, Nat.zero_le _, fun j hj => absurd hj (Nat.not_lt_zero j)⟩ (.refl _) (subT.cons Z (subT.cons Z (subT.cons Z subT.nil))) ?_
 rintro ⟨k, hk, hok⟩
 dsimp only
 by_cases hlt : k < (l).length
 ·
  refine h_seq<|h_seq<|H<|G Z K<|G Z K<|o_len Z K<|o_cmp Z Z Z K<|G Z K<|W Z Z (by simp; omega) K ?_
  refine G Z K<|W Z Z (by simp; omega) K ?_
  refine G Z K<|W Z Z (by simp; omega) K ?_
  refine o_idxv Z Z (by omega) (eltIn (by first | omega | (simp; omega))) rfl K ?_
  refine W Z Z (by simp; omega) K ?_
  refine o_loadv Z Z K<|W Z Z (by simp; omega) K ?_
  refine G Z K<|W Z Z (by simp; omega) K ?_
  refine o_cmp Z Z Z K<|o_pickt Z (by simp; omega) rfl K ?_
  refine o_nil<|h_cond Z (fun c3 => ?_) (fun c3 => ?_)
  ·
   refine h_skip<|h_block<|H<|G Z K<|o_add Z Z (by unfold in64; (try dsimp only); omega) K ?_
   refine S Z K<|o_nil ?_
   have hbad : stopP l n k = false := by simp only [stopP]; simp_all
   refine back rfl ⟨k + 1, hlt, fun j hj => (by rcases Nat.lt_succ_iff_lt_or_eq.1 hj with h1 | h1; exact hok j h1; subst h1; exact hbad)⟩ (by dsimp only; omega) (.refl _) (subT.cons Z (subT.cons Z (subT.cons Z subT.nil)))
  ·
   refine h_exit<|h_seq<|h_seq<|H<|G Z K<|G Z K<|o_len Z K<|o_cmp Z Z Z K<|G Z K<|W Z Z (by simp; omega) K ?_
   refine G Z K<|W Z Z (by simp; omega) K ?_
   refine G Z K<|W Z Z (by simp; omega) K ?_
   refine o_idxv Z Z (by omega) (eltIn (by first | omega | (simp; omega))) rfl K ?_
   refine W Z Z (by simp; omega) K ?_
   refine o_loadv Z Z K<|W Z Z (by simp; omega) K ?_
   refine G Z K<|W Z Z (by simp; omega) K ?_
   refine o_cmp Z Z Z K<|o_pickt Z (by simp; omega) rfl K ?_
   refine o_nil<|h_cond Z (fun c6 => ?_) (fun c6 => ?_)
   ·
    refine h_seq<|H<|G Z K<|S Z K<|o_nil<|h_ret ?_
    have hst : stopP l n k = true := by simp only [stopP]; simp_all
    have hp := posP_some hlt hst hok
    have hq : putM l n = l := by unfold putM; rw [hp, if_pos ⟨by omega, by simp_all⟩]
    exact ret1 rfl ⟨_, rfl, ⟨f, by rw [hq]⟩, rfl⟩
   ·
    refine h_skip<|h_seq<|h_draw _ (List.nil_sublist _) [(0, .flo), (1, .flo), (2, .flo), (3, .flo), (4, .flo), (5, .flo), (6, .flo), (7, .flo), (8, .flo), (9, .flo), (10, .flo), (11, .flo)] mixed (by kernel_rfl)<|C Z Z (fun jj => G Z K jj)<|C Z Z (fun jj => G Z K jj)<|C Z Z (fun jj => G Z K jj)<|C Z Z (fun jj => o_front3 Z Z Z (by omega) (by simp; try omega) (by simp [encI]) K jj) ?_
    refine C Z Z (fun jj => G Z K jj)<|C Z Z (fun jj => o_buildSlicep Z (by rfl) (by rfl) (by rfl) (by rfl) K jj) ?_
    refine C Z Z (fun jj => G Z K jj)<|C Z Z (fun jj => G Z K jj)<|C Z Z (fun jj => o_tail Z Z (by omega) (by simp; try omega) (by simp [encI]) K jj) ?_
    refine C Z Z (fun jj => o_appendp Z Z (Src.v _ _) (fun z hz => okB_I z (List.mem_of_mem_drop hz)) (by simp [chunk]) (by simp; omega) (by simp [chunk_length]; omega) K jj) ?_
    refine C Z Z (fun jj => o_appendp Z Z (Src.v _ _) (okB_In) (fun e he => okB_len (okB_I e (List.mem_of_mem_take he))) (by simp [chunk_length] <;> omega) (by simp [chunk_length]; omega) K jj) ?_
    refine C Z Z (fun jj => S Z K jj)<|c_nil<|h_ret ?_
    have hst : stopP l n k = true := by simp only [stopP]; simp_all
    have hp := posP_some hlt hst hok
    have hq : putM l n = l.take k ++ n :: l.drop k := by unfold putM; rw [hp, if_neg (fun hc => by have h6 := c6; simp only [Int.toNat_natCast, decide_eq_false_iff_not] at h6; exact h6 hc.2)]
    exact ret1 rfl ⟨_, rfl, ⟨false, by rw [hq, ← put_enc (by omega)]; rfl⟩, rfl⟩
 ·
  obtain rfl : k = (l).length := by omega
  refine h_seq<|h_seq<|H<|G Z K<|G Z K<|o_len Z K<|o_cmp Z Z Z K<|G Z K<|U Z Z (by simp <;> omega) K ?_
  refine U Z Z (by simp <;> omega) K ?_
  refine U Z Z (by simp <;> omega) K ?_
  refine U Z Z (by simp <;> omega) K ?_
  refine U Z Z (by simp <;> omega) K ?_
  refine U Z Z (by simp <;> omega) K ?_
  refine o_pickf Z (by simp <;> omega) rfl K ?_
  refine o_nil<|h_condf Z Z<|h_exit<|h_seq<|h_seq<|H<|G Z K<|G Z K<|o_len Z K<|o_cmp Z Z Z K<|G Z K<|U Z Z (by simp) K ?_
  refine U Z Z (by simp) K ?_
  refine U Z Z (by simp) K ?_
  refine U Z Z (by simp) K ?_
  refine U Z Z (by simp) K ?_
  refine U Z Z (by simp) K ?_
  refine o_pickf Z (by simp) rfl K ?_
  refine o_nil<|h_condf Z Z<|h_skip<|h_seq<|h_draw _ (List.nil_sublist _) [(0, .flo), (1, .flo), (2, .flo), (3, .flo), (4, .flo), (5, .flo), (6, .flo), (7, .flo), (8, .flo), (9, .flo), (10, .flo), (11, .flo)] mixed (by kernel_rfl)<|C Z Z (fun jj => G Z K jj)<|C Z Z (fun jj => G Z K jj)<|C Z Z (fun jj => G Z K jj)<|C Z Z (fun jj => o_front3 Z Z Z (by omega) (by simp; try omega) (by simp [encI]) K jj) ?_
  refine C Z Z (fun jj => G Z K jj)<|C Z Z (fun jj => o_buildSlicep Z (by rfl) (by rfl) (by rfl) (by rfl) K jj) ?_
  refine C Z Z (fun jj => G Z K jj)<|C Z Z (fun jj => G Z K jj)<|C Z Z (fun jj => o_tail Z Z (by omega) (by simp; try omega) (by simp [encI]) K jj) ?_
  refine C Z Z (fun jj => o_append00 Z Z (by simp) K jj) ?_
  refine C Z Z (fun jj => o_appendp Z Z (Src.v _ _) (okB_one rfl) (fun e he => okB_len (okB_I e (List.mem_of_mem_take he))) (by simp [chunk_length] <;> omega) (by simp [chunk_length]; omega) K jj) ?_
  refine C Z Z (fun jj => S Z K jj)<|c_nil<|h_ret ?_
  have hp := posP_none hok
  have hq : putM l n = l.take l.length ++ n :: l.drop l.length := by unfold putM; rw [hp, if_neg (fun hc => absurd hc.1 (by omega))]
  exact ret1 rfl ⟨_, rfl, ⟨false, by rw [hq]; simp [encI, chunk, List.take_of_length_le]⟩, rfl⟩

end Go.Proofs.YtnoicbajhlpndaaGreat
/- The walk of the reference's edges. -/
namespace Go.Proofs.YtnoicbajhlpndaaGreat
open Go Go.RowKit Go.Shelf Hp
set_option maxRecDepth 10000
set_option maxHeartbeats 1000000
set_option linter.unusedVariables false
set_option linter.unusedSimpArgs false
attribute [local irreducible] WP WPs FnX IterX YdX RetP PanP Ch Back Join
def edgesA (l : List Blk) (o : List Int) : List Int := l.foldl (fun o x => putM (putM o x.f) x.t) o
abbrev eg0 : List Int := [0, 100000000]
def edgesM (a b : List Blk) : List Int := edgesA b (edgesA a eg0)
theorem edgesA_len : ∀ (l : List Blk) (o : List Int), (edgesA l o).length ≤ o.length + 2 * l.length
  | [], o => by simp [edgesA]
  | x :: l, o => by
    have h1 := edgesA_len l (putM (putM o x.f) x.t)
    have h2 := putM_len (putM o x.f) x.t
    have h3 := putM_len o x.f
    simp only [edgesA, List.foldl_cons, List.length_cons] at h1 ⊢
    omega
theorem edgesA_succ {l : List Blk} {o : List Int} {k : Nat} (h : k < l.length) : edgesA (l.take (k + 1)) o = putM (putM (edgesA (l.take k) o) (l.getD k dB).f) (l.getD k dB).t := by
  have e : l.take (k + 1) = l.take k ++ [l.getD k dB] := by rw [List.take_add_one, List.getElem?_eq_getElem h]; simp [h]
  rw [e, edgesA, List.foldl_append]; rfl

theorem edges_spec (a b : List Blk) (ha : a.length ≤ 1000000000) (hb : b.length ≤ 1000000000) (fa fb : Bool) : Fc Tryz.prog 197 [V (a.map encB) fa, V (b.map encB) fb] [] (fun r h' => (∃ f', r = V ((edgesM a b).map encI) f') ∧ h' = []) := by
 refine fnE_intro (N := 52) Tryz.func197 rfl rfl rfl ?_
 intro X
 refine h_seq<|H<|S Z K<|o_nil<|h_seq<|H<|o_buildSlicep Z (by rfl) (by rfl) (by rfl) (by rfl) K ?_
 refine S Z K<|o_nil<|h_seq<|h_seq<|H<|S Z K<|o_nil<|h_block<|h_famS (ι := {p : Nat × Bool // p.1 ≤ a.length}) (fun i => [(0, V (a.map encB) fa), (1, V (b.map encB) fb), (5, V ((edgesA (a.take i.1.1) eg0).map encI) i.1.2), (6, I (i.1.1 : Nat))]) (fun i => []) (fun i => a.length - i.1.1) ⟨(0, true), Nat.zero_le _⟩ (.refl _) (subT.cons Z (subT.cons Z (subT.cons Z (subT.cons Z subT.nil)))) ?_
 rintro ⟨⟨k, fl⟩, hk⟩
 dsimp only at hk ⊢
 by_cases hlt : k < a.length
 ·
  have h1 := edgesA_len (a.take k) eg0
  have h2 : (a.take k).length = k := by simp; omega
  have h3 := edgesA_len a eg0
  have h4 : eg0.length = 2 := rfl
  have hcl : (edgesA (a.take k) eg0).length ≤ 10000000000 := by omega
  have h5 := putM_len (edgesA (a.take k) eg0) (a.getD ((k : Nat) : Int).toNat dB).f
  have hcl2 : (putM (edgesA (a.take k) eg0) (a.getD ((k : Nat) : Int).toNat dB).f).length ≤ 10000000000 := by omega
  refine h_seq<|h_seq<|H<|G Z K<|G Z K<|o_len Z K<|o_cmp Z Z Z K<|o_nil<|h_condt Z (by simp; omega) ?_
  refine h_skip<|h_seq<|h_block<|h_draw _ (List.nil_sublist _) [(0, .flo), (1, .flo), (2, .flo), (3, .flo), (4, .flo), (5, .flo), (6, .val), (8, .flo), (9, .flo), (10, .flo), (11, .flo), (12, .flo), (13, .val), (7, .new), (14, .new), (15, .flo)] mixed (by kernel_rfl)<|C Z Z (fun jj => G Z K jj)<|C Z Z (fun jj => G Z K jj)<|C Z Z (fun jj => G Z K jj)<|C Z Z (fun jj => o_idxv Z Z (by omega) (eltBk (by simpa using hlt)) rfl K jj) ?_
  refine C Z Z (fun jj => o_faddrv Z Z K rfl K jj)<|C Z Z (fun jj => o_faddrv Z Z K rfl K jj)<|c_val Z Z (fun _ _ _ _ jj => o_loadv Z Z K jj)<|C Z Z (fun jj => G Z K jj)<|C Z Z (fun jj => G Z K jj)<|C Z Z (fun jj => o_idxv Z Z (by omega) (eltBk (by simpa using hlt)) rfl K jj) ?_
  refine C Z Z (fun jj => o_faddrv Z Z K rfl K jj)<|C Z Z (fun jj => o_faddrv Z Z K rfl K jj)<|c_val Z Z (fun _ _ _ _ jj => o_loadv Z Z K jj)<|c_newG (ι := Bool) (fun f' => V ((putM (edgesA (a.take k) eg0) (a.getD ((k : Nat) : Int).toNat dB).f).map encI) f') (fun _ => []) rfl rfl (fun X r Q ds kk => o_callA Z Z EntC.out K (put_spec _ hcl fl _) fun v h' hr => by obtain ⟨⟨f', rfl⟩, rfl⟩ := hr; exact kk f') fun f22 => ?_
  refine c_newG (ι := Bool) (fun f' => V ((putM (putM (edgesA (a.take k) eg0) (a.getD ((k : Nat) : Int).toNat dB).f) (a.getD ((k : Nat) : Int).toNat dB).t).map encI) f') (fun _ => []) rfl rfl (fun X r Q ds kk => o_callA Z Z EntC.out K (put_spec _ hcl2 _ _) fun v h' hr => by obtain ⟨⟨f', rfl⟩, rfl⟩ := hr; exact kk f') fun f29 => C Z Z (fun jj => S Z K jj)<|c_nil<|H<|G Z K<|o_add Z Z (by unfold in64; (try dsimp only); omega) K ?_
  refine S Z K<|o_nil<|back rfl ⟨(k + 1, f29), hlt⟩ (by dsimp only; omega) (.refl _) (subT.cons Z (subT.cons Z (subT.cons (by dsimp only; rw [edgesA_succ hlt]; rfl) (subT.cons Z subT.nil))))
 ·
  obtain rfl : k = a.length := by omega
  rw [List.take_length]
  refine h_seq<|h_seq<|H<|G Z K<|G Z K<|o_len Z K<|o_cmp Z Z Z K<|o_nil<|h_condf Z (by simp <;> omega) ?_
  refine h_exit<|h_seq<|h_seq<|H<|S Z K<|o_nil<|h_block<|h_famS (ι := {p : Nat × Bool // p.1 ≤ b.length}) (fun i => [(0, V (a.map encB) fa), (1, V (b.map encB) fb), (5, V ((edgesA (b.take i.1.1) (edgesA a eg0)).map encI) i.1.2), (7, I (i.1.1 : Nat))]) (fun i => []) (fun i => b.length - i.1.1) ⟨(0, fl), Nat.zero_le _⟩ (.refl _) (subT.cons Z (subT.cons Z (subT.cons Z (subT.cons Z subT.nil)))) ?_
  rintro ⟨⟨k, fl⟩, hk⟩
  dsimp only at hk ⊢
  by_cases hlt : k < b.length
  ·
   have h1 := edgesA_len (b.take k) (edgesA a eg0)
   have h2 : (b.take k).length = k := by simp; omega
   have h3 := edgesA_len a eg0
   have h4 : eg0.length = 2 := rfl
   have hcl : (edgesA (b.take k) (edgesA a eg0)).length ≤ 10000000000 := by omega
   have h5 := putM_len (edgesA (b.take k) (edgesA a eg0)) (b.getD ((k : Nat) : Int).toNat dB).f
   have hcl2 : (putM (edgesA (b.take k) (edgesA a eg0)) (b.getD ((k : Nat) : Int).toNat dB).f).length ≤ 10000000000 := by omega
   refine h_seq<|h_seq<|H<|G Z K<|G Z K<|o_len Z K<|o_cmp Z Z Z K<|o_nil<|h_condt Z (by simp; omega) ?_
   refine h_skip<|h_seq<|h_block<|h_draw _ (List.nil_sublist _) [(0, .flo), (1, .flo), (2, .flo), (3, .flo), (4, .flo), (5, .flo), (6, .val), (8, .flo), (9, .flo), (10, .flo), (11, .flo), (12, .flo), (13, .val), (7, .new), (14, .new), (15, .flo)] mixed (by kernel_rfl)<|C Z Z (fun jj => G Z K jj)<|C Z Z (fun jj => G Z K jj)<|C Z Z (fun jj => G Z K jj)<|C Z Z (fun jj => o_idxv Z Z (by omega) (eltBk (by simpa using hlt)) rfl K jj) ?_
   refine C Z Z (fun jj => o_faddrv Z Z K rfl K jj)<|C Z Z (fun jj => o_faddrv Z Z K rfl K jj)<|c_val Z Z (fun _ _ _ _ jj => o_loadv Z Z K jj)<|C Z Z (fun jj => G Z K jj)<|C Z Z (fun jj => G Z K jj)<|C Z Z (fun jj => o_idxv Z Z (by omega) (eltBk (by simpa using hlt)) rfl K jj) ?_
   refine C Z Z (fun jj => o_faddrv Z Z K rfl K jj)<|C Z Z (fun jj => o_faddrv Z Z K rfl K jj)<|c_val Z Z (fun _ _ _ _ jj => o_loadv Z Z K jj)<|c_newG (ι := Bool) (fun f' => V ((putM (edgesA (b.take k) (edgesA a eg0)) (b.getD ((k : Nat) : Int).toNat dB).f).map encI) f') (fun _ => []) rfl rfl (fun X r Q ds kk => o_callA Z Z EntC.out K (put_spec _ hcl fl _) fun v h' hr => by obtain ⟨⟨f', rfl⟩, rfl⟩ := hr; exact kk f') fun f43 => ?_
   refine c_newG (ι := Bool) (fun f' => V ((putM (putM (edgesA (b.take k) (edgesA a eg0)) (b.getD ((k : Nat) : Int).toNat dB).f) (b.getD ((k : Nat) : Int).toNat dB).t).map encI) f') (fun _ => []) rfl rfl (fun X r Q ds kk => o_callA Z Z EntC.out K (put_spec _ hcl2 _ _) fun v h' hr => by obtain ⟨⟨f', rfl⟩, rfl⟩ := hr; exact kk f') fun f50 => C Z Z (fun jj => S Z K jj)<|c_nil<|H<|G Z K<|o_add Z Z (by unfold in64; (try dsimp only); omega) K ?_
   refine S Z K<|o_nil<|back rfl ⟨(k + 1, f50), hlt⟩ (by dsimp only; omega) (.refl _) (subT.cons Z (subT.cons Z (subT.cons (by dsimp only; rw [edgesA_succ hlt]; rfl) (subT.cons Z subT.nil))))
  ·
   obtain rfl : k = b.length := by omega
   rw [List.take_length]
   refine h_seq<|h_seq<|H<|G Z K<|G Z K<|o_len Z K<|o_cmp Z Z Z K<|o_nil<|h_condf Z (by simp <;> omega) ?_
   exact h_exit<|h_seq<|H<|G Z K<|S Z K<|o_nil<|h_ret<|ret1 rfl ⟨_, rfl, ⟨fl, rfl⟩, rfl⟩

end Go.Proofs.YtnoicbajhlpndaaGreat
/- The walk of the reference's combine. -/
namespace Go.Proofs.YtnoicbajhlpndaaGreat
open Go Go.RowKit Go.Shelf Hp
set_option maxRecDepth 10000
set_option maxHeartbeats 1000000
set_option linter.unusedVariables false
set_option linter.unusedSimpArgs false
attribute [local irreducible] WP WPs FnX IterX YdX RetP PanP Ch Back Join
def x1M (way x y : Int) : Int := if (way = 0 ∧ y ≥ 0) ∨ (way = 1 ∧ y ≥ 0) ∨ (way = 2 ∧ y < 0) then y else x
def x2M (way x y : Int) : Int := if way = 1 ∧ y ≥ 0 then -1 else x1M way x y
def x3M (way fr to x y : Int) : Int := if x2M way x y ≥ 0 ∧ x2M way x y = fr then to else x2M way x y
def xR (a b : List Blk) (way fr to n : Int) : Int := x3M way fr to (holderR a n) (holderR b n)
def addR (out : List Blk) (f t x : Int) : List Blk :=
  if x < 0 then out else match out.getLast? with
  | none => [⟨f, t, x⟩]
  | some z => if z.t = f ∧ z.c = x then out.dropLast ++ [⟨z.f, t, z.c⟩] else out ++ [⟨f, t, x⟩]
def outR (a b : List Blk) (way fr to : Int) (e : List Int) : Nat → List Blk
  | 0 => []
  | k + 1 => addR (outR a b way fr to e k) (e.getD k 0) (e.getD (k + 1) 0) (xR a b way fr to (e.getD k 0))
def combR (a b : List Blk) (way fr to : Int) : List Blk × Int :=
  if rvalid (outR a b way fr to (edgesM a b) ((edgesM a b).length - 1)) then (outR a b way fr to (edgesM a b) ((edgesM a b).length - 1), 0) else ([], 130)
theorem addR_len (out : List Blk) (f t x : Int) : (addR out f t x).length ≤ out.length + 1 := by
  unfold addR
  split
  · omega
  · split
    · simp
    · rename_i z hz
      have : out ≠ [] := by intro e; subst e; simp at hz
      have := List.length_pos_iff.2 this
      split <;> simp <;> omega
theorem outR_len (a b : List Blk) (way fr to : Int) (e : List Int) : ∀ k, (outR a b way fr to e k).length ≤ k
  | 0 => by simp [outR]
  | k + 1 => by
    have h1 := outR_len a b way fr to e k
    have h2 := addR_len (outR a b way fr to e k) (e.getD k 0) (e.getD (k + 1) 0) (xR a b way fr to (e.getD k 0))
    simp only [outR]; omega
theorem addR_neg {out : List Blk} {f t x : Int} (h : x < 0) : addR out f t x = out := by simp [addR, h]
theorem addR_nil {f t x : Int} (h : ¬ x < 0) : addR [] f t x = [⟨f, t, x⟩] := by simp [addR, h]
theorem addR_more {out : List Blk} {f t x : Int} (h : ¬ x < 0) (hne : out ≠ []) (hd : ¬ ((out.getLast hne).t = f ∧ (out.getLast hne).c = x)) : addR out f t x = out ++ [⟨f, t, x⟩] := by
  simp only [addR, if_neg h, List.getLast?_eq_some_getLast hne, if_neg hd]
theorem addR_long {out : List Blk} {f t x : Int} (h : ¬ x < 0) (hne : out ≠ []) (hd : (out.getLast hne).t = f ∧ (out.getLast hne).c = x) : addR out f t x = out.dropLast ++ [⟨(out.getLast hne).f, t, (out.getLast hne).c⟩] := by
  simp only [addR, if_neg h, List.getLast?_eq_some_getLast hne, if_pos hd]
theorem lastM {l : List Blk} (hne : l ≠ []) : (l.map encB)[0 + (max ((l.length : Int) - 1) 0).toNat]? = some (encB (l.getLast hne)) := by
  have := List.length_pos_iff.2 hne
  have e : (max ((l.length : Int) - 1) 0).toNat = l.length - 1 := by omega
  rw [Nat.zero_add, e, List.getElem?_map, List.getLast_eq_getElem, List.getElem?_eq_getElem (by omega)]; rfl
structure CrI (o : Nat → List Blk) (n : Nat) where
  i : Nat
  hi : i ≤ n - 1
  ho : o i = []
structure CrJ (o : Nat → List Blk) (n : Nat) where
  i : Nat
  ob : Nat
  c : Nat
  es : List (List PV)
  len : Nat
  hi : i ≤ n - 1
  he : es = (o i).map encB
  hl : len = (o i).length
  hne : o i ≠ []
  hc : len ≤ c
theorem succN' {i : Nat} : ((i : Int) + 1).toNat = i + 1 := by omega

theorem rcombine_spec (a b : List Blk) (hal : a.length ≤ 200000000) (hbl : b.length ≤ 200000000) (fa fb : Bool) (way fr to : Int) : Fn1 Tryz.prog 166 [V (a.map encB) fa, V (b.map encB) fb, I way, I fr, I to] (encR (combR a b way fr to)) := by
 refine fnE_intro (N := 139) Tryz.func166 rfl rfl rfl ?_
 intro X
 refine h_seq<|H<|S Z K<|S Z K<|o_nil<|h_seq<|H<|G Z K<|G Z K<|o_callN Z Z EntC.out K (edges_spec a b (by omega) (by omega) fa fb) fun v h' hr => ?_
 obtain ⟨⟨fe, rfl⟩, rfl⟩ := hr
 have hel : (edgesM a b).length ≤ 2 + 2 * a.length + 2 * b.length := by have h1 := edgesA_len b (edgesA a eg0); have h2 := edgesA_len a eg0; have h4 : eg0.length = 2 := rfl; simp only [edgesM]; omega
 refine S Z K<|o_nil<|h_seq<|H<|S Z K<|o_nil<|h_seq<|h_seq<|H<|S Z K<|o_nil<|h_block ?_
 refine h_famS (ι := (CrI (outR a b way fr to (edgesM a b)) (edgesM a b).length) ⊕ (CrJ (outR a b way fr to (edgesM a b)) (edgesM a b).length)) (fun i => match i with | .inl i => [(0, V (a.map encB) fa), (1, V (b.map encB) fb), (2, I way), (3, I fr), (4, I to), (12, V ((edgesM a b).map encI) fe), (13, V [] true), (14, I (i.i : Nat))] | .inr i => [(0, V (a.map encB) fa), (1, V (b.map encB) fb), (2, I way), (3, I fr), (4, I to), (12, V ((edgesM a b).map encI) fe), (13, .os i.ob 3 0 i.len i.c), (14, I (i.i : Nat))]) (fun i => match i with | .inl i => [] | .inr i => (i.ob, .arr 116 3 i.es i.c) :: []) (fun i => match i with | .inl i => (edgesM a b).length - i.i | .inr i => (edgesM a b).length - i.i) (.inl ⟨0, Nat.zero_le _, rfl⟩) (.refl _) (subT.cons Z (subT.cons Z (subT.cons Z (subT.cons Z (subT.cons Z (subT.cons Z (subT.cons Z (subT.cons Z subT.nil)))))))) ?_
 rintro (⟨i, hi, ho⟩ | ⟨i, ob, c, es, len, hi, he, hl, hne, hc⟩)
 ·
  dsimp only
  by_cases hlt : i + 1 < (edgesM a b).length
  ·
   have hol := outR_len a b way fr to (edgesM a b) i
   refine h_seq<|h_seq<|H<|G Z K<|o_add Z Z (by unfold in64; (try dsimp only); omega) K ?_
   refine G Z K<|o_len Z K<|o_cmp Z Z Z K<|o_nil<|h_condt Z (by simp; omega) ?_
   refine h_skip<|h_seq<|h_block<|h_seq<|H<|G Z K<|G Z K<|G Z K<|o_idxv Z Z (by first | omega | (have := List.length_pos_iff.2 hne; omega)) (eltIn (by first | omega | (simp; omega))) rfl K ?_
   refine o_loadv Z Z K<|o_call1 Z Z EntC.out K (holder_spec a (by omega) fa _)<|S Z K<|o_nil<|h_seq<|H<|G Z K<|G Z K<|G Z K<|o_idxv Z Z (by first | omega | (have := List.length_pos_iff.2 hne; omega)) (eltIn (by first | omega | (simp; omega))) rfl K ?_
   refine o_loadv Z Z K<|o_call1 Z Z EntC.out K (holder_spec b (by omega) fb _)<|S Z K<|o_nil<|h_seqK (ι := Unit) (fun _ => [(0, V (a.map encB) fa), (1, V (b.map encB) fb), (2, I way), (3, I fr), (4, I to), (12, V ((edgesM a b).map encI) fe), (13, V [] true), (14, I (i : Nat)), (16, I (holderR b ((edgesM a b).getD ((i : Nat) : Int).toNat 0))), (15, I (x1M way (holderR a ((edgesM a b).getD ((i : Nat) : Int).toNat 0)) (holderR b ((edgesM a b).getD ((i : Nat) : Int).toNat 0))))]) (fun _ => []) ?_ ?_
   ·
    refine h_seq<|H<|G Z K<|o_cmp Z Z Z K<|G Z K<|o_guard Z Z K (fun g3 => ?_) (fun g3 => ?_)
    ·
     have g3 : _ = true := g3
     refine G Z K<|W Z Z g3 K<|o_cmp Z Z Z K<|o_pickt Z g3 rfl K<|G Z K<|o_guard Z Z K (fun g5 => ?_) (fun g5 => ?_)
     ·
      have g5 : _ = false := g5
      refine G Z K<|W Z Z g5 K<|o_cmp Z Z Z K<|W Z Z g5 K<|G Z K<|o_guard Z Z K (fun g7 => ?_) (fun g7 => ?_)
      ·
       have g7 : _ = true := g7
       refine G Z K<|W Z Z g7 K<|o_cmp Z Z Z K<|W Z Z g5 K<|o_pickt Z g7 rfl K<|o_pickf Z g5 rfl K<|G Z K<|o_guard Z Z K (fun g9 => ?_) (fun g9 => ?_)
       ·
        have g9 : _ = false := g9
        refine G Z K<|W Z Z g9 K<|o_cmp Z Z Z K<|W Z Z g9 K<|G Z K<|o_guard Z Z K (fun g11 => ?_) (fun g11 => ?_)
        ·
         have g11 : _ = true := g11
         refine G Z K<|W Z Z g11 K<|o_cmp Z Z Z K<|W Z Z g9 K<|o_pickt Z g11 rfl K<|o_pickf Z g9 rfl K<|o_nil<|h_cond Z (fun c13 => ?_) (fun c13 => ?_)
         ·
          exact H<|G Z K<|S Z K<|o_nil<|join rfl () (.refl _) (List.nil_sublist _) (subT.cons Z (subT.cons Z (subT.cons Z (subT.cons Z (subT.cons Z (subT.cons Z (subT.cons Z (subT.cons Z (subT.cons Z (subT.cons (congrArg (fun z => some (I z)) (by simp only [x1M]; simp_all <;> (try omega))) subT.nil))))))))))
         ·
          exact h_skip<|join rfl () (.refl _) (List.nil_sublist _) (subT.cons Z (subT.cons Z (subT.cons Z (subT.cons Z (subT.cons Z (subT.cons Z (subT.cons Z (subT.cons Z (subT.cons Z (subT.cons (congrArg (fun z => some (I z)) (by simp only [x1M]; simp_all <;> (try omega))) subT.nil))))))))))
        ·
         have g11 : _ = false := g11
         exact U Z Z g11 K<|W Z Z g9 K<|o_pickf Z g11 rfl K<|o_pickf Z g9 rfl K<|o_nil<|h_condf Z Z<|h_skip<|join rfl () (.refl _) (List.nil_sublist _) (subT.cons Z (subT.cons Z (subT.cons Z (subT.cons Z (subT.cons Z (subT.cons Z (subT.cons Z (subT.cons Z (subT.cons Z (subT.cons (congrArg (fun z => some (I z)) (by simp only [x1M]; simp_all <;> (try omega))) subT.nil))))))))))
       ·
        have g9 : _ = true := g9
        refine U Z Z g9 K<|U Z Z g9 K<|o_guardx Z Z K<|o_guardx Z Z K<|U Z Z g9 K<|o_pickt Z g9 rfl K<|o_nil<|h_condt Z Z<|H<|G Z K<|S Z K<|o_nil ?_
        exact join rfl () (.refl _) (List.nil_sublist _) (subT.cons Z (subT.cons Z (subT.cons Z (subT.cons Z (subT.cons Z (subT.cons Z (subT.cons Z (subT.cons Z (subT.cons Z (subT.cons (congrArg (fun z => some (I z)) (by simp only [x1M]; simp_all <;> (try omega))) subT.nil))))))))))
      ·
       have g7 : _ = false := g7
       refine U Z Z g7 K<|W Z Z g5 K<|o_pickf Z g7 rfl K<|o_pickf Z g5 rfl K<|G Z K<|W Z Z Z K<|G Z K<|W Z Z Z K<|o_cmp Z Z Z K<|W Z Z Z K<|G Z K<|o_guard Z Z K (fun g15 => ?_) (fun g15 => ?_)
       ·
        have g15 : _ = true := g15
        refine G Z K<|W Z Z g15 K<|o_cmp Z Z Z K<|W Z Z Z K<|o_pickt Z g15 rfl K<|o_pickf Z Z Z K<|o_nil<|h_cond Z (fun c17 => ?_) (fun c17 => ?_)
        ·
         exact H<|G Z K<|S Z K<|o_nil<|join rfl () (.refl _) (List.nil_sublist _) (subT.cons Z (subT.cons Z (subT.cons Z (subT.cons Z (subT.cons Z (subT.cons Z (subT.cons Z (subT.cons Z (subT.cons Z (subT.cons (congrArg (fun z => some (I z)) (by simp only [x1M]; simp_all <;> (try omega))) subT.nil))))))))))
        ·
         exact h_skip<|join rfl () (.refl _) (List.nil_sublist _) (subT.cons Z (subT.cons Z (subT.cons Z (subT.cons Z (subT.cons Z (subT.cons Z (subT.cons Z (subT.cons Z (subT.cons Z (subT.cons (congrArg (fun z => some (I z)) (by simp only [x1M]; simp_all <;> (try omega))) subT.nil))))))))))
       ·
        have g15 : _ = false := g15
        exact U Z Z g15 K<|W Z Z Z K<|o_pickf Z g15 rfl K<|o_pickf Z Z Z K<|o_nil<|h_condf Z Z<|h_skip<|join rfl () (.refl _) (List.nil_sublist _) (subT.cons Z (subT.cons Z (subT.cons Z (subT.cons Z (subT.cons Z (subT.cons Z (subT.cons Z (subT.cons Z (subT.cons Z (subT.cons (congrArg (fun z => some (I z)) (by simp only [x1M]; simp_all <;> (try omega))) subT.nil))))))))))
     ·
      have g5 : _ = true := g5
      refine U Z Z g5 K<|U Z Z g5 K<|o_guardx Z Z K<|o_guardx Z Z K<|U Z Z g5 K<|o_pickt Z g5 rfl K<|G Z K<|U Z Z Z K<|U Z Z Z K<|U Z Z Z K<|o_guardx Z Z K<|o_guardx Z Z K ?_
      exact U Z Z Z K<|o_pickt Z Z Z K<|o_nil<|h_condt Z Z<|H<|G Z K<|S Z K<|o_nil<|join rfl () (.refl _) (List.nil_sublist _) (subT.cons Z (subT.cons Z (subT.cons Z (subT.cons Z (subT.cons Z (subT.cons Z (subT.cons Z (subT.cons Z (subT.cons Z (subT.cons (congrArg (fun z => some (I z)) (by simp only [x1M]; simp_all <;> (try omega))) subT.nil))))))))))
    ·
     have g3 : _ = false := g3
     refine U Z Z g3 K<|o_pickf Z g3 rfl K<|G Z K<|W Z Z Z K<|G Z K<|W Z Z Z K<|o_cmp Z Z Z K<|W Z Z Z K<|G Z K<|o_guard Z Z K (fun g19 => ?_) (fun g19 => ?_)
     ·
      have g19 : _ = true := g19
      refine G Z K<|W Z Z g19 K<|o_cmp Z Z Z K<|W Z Z Z K<|o_pickt Z g19 rfl K<|o_pickf Z Z Z K<|G Z K<|o_guard Z Z K (fun g21 => ?_) (fun g21 => ?_)
      ·
       have g21 : _ = false := g21
       refine G Z K<|W Z Z g21 K<|o_cmp Z Z Z K<|W Z Z g21 K<|G Z K<|o_guard Z Z K (fun g23 => ?_) (fun g23 => ?_)
       ·
        have g23 : _ = true := g23
        refine G Z K<|W Z Z g23 K<|o_cmp Z Z Z K<|W Z Z g21 K<|o_pickt Z g23 rfl K<|o_pickf Z g21 rfl K<|o_nil<|h_cond Z (fun c25 => ?_) (fun c25 => ?_)
        ·
         exact H<|G Z K<|S Z K<|o_nil<|join rfl () (.refl _) (List.nil_sublist _) (subT.cons Z (subT.cons Z (subT.cons Z (subT.cons Z (subT.cons Z (subT.cons Z (subT.cons Z (subT.cons Z (subT.cons Z (subT.cons (congrArg (fun z => some (I z)) (by simp only [x1M]; simp_all <;> (try omega))) subT.nil))))))))))
        ·
         exact h_skip<|join rfl () (.refl _) (List.nil_sublist _) (subT.cons Z (subT.cons Z (subT.cons Z (subT.cons Z (subT.cons Z (subT.cons Z (subT.cons Z (subT.cons Z (subT.cons Z (subT.cons (congrArg (fun z => some (I z)) (by simp only [x1M]; simp_all <;> (try omega))) subT.nil))))))))))
       ·
        have g23 : _ = false := g23
        exact U Z Z g23 K<|W Z Z g21 K<|o_pickf Z g23 rfl K<|o_pickf Z g21 rfl K<|o_nil<|h_condf Z Z<|h_skip<|join rfl () (.refl _) (List.nil_sublist _) (subT.cons Z (subT.cons Z (subT.cons Z (subT.cons Z (subT.cons Z (subT.cons Z (subT.cons Z (subT.cons Z (subT.cons Z (subT.cons (congrArg (fun z => some (I z)) (by simp only [x1M]; simp_all <;> (try omega))) subT.nil))))))))))
      ·
       have g21 : _ = true := g21
       refine U Z Z g21 K<|U Z Z g21 K<|o_guardx Z Z K<|o_guardx Z Z K<|U Z Z g21 K<|o_pickt Z g21 rfl K<|o_nil<|h_condt Z Z<|H<|G Z K<|S Z K<|o_nil ?_
       exact join rfl () (.refl _) (List.nil_sublist _) (subT.cons Z (subT.cons Z (subT.cons Z (subT.cons Z (subT.cons Z (subT.cons Z (subT.cons Z (subT.cons Z (subT.cons Z (subT.cons (congrArg (fun z => some (I z)) (by simp only [x1M]; simp_all <;> (try omega))) subT.nil))))))))))
     ·
      have g19 : _ = false := g19
      refine U Z Z g19 K<|W Z Z Z K<|o_pickf Z g19 rfl K<|o_pickf Z Z Z K<|G Z K<|W Z Z Z K<|G Z K<|W Z Z Z K<|o_cmp Z Z Z K<|W Z Z Z K<|G Z K<|o_guard Z Z K (fun g27 => ?_) (fun g27 => ?_)
      ·
       have g27 : _ = true := g27
       refine G Z K<|W Z Z g27 K<|o_cmp Z Z Z K<|W Z Z Z K<|o_pickt Z g27 rfl K<|o_pickf Z Z Z K<|o_nil<|h_cond Z (fun c29 => ?_) (fun c29 => ?_)
       ·
        exact H<|G Z K<|S Z K<|o_nil<|join rfl () (.refl _) (List.nil_sublist _) (subT.cons Z (subT.cons Z (subT.cons Z (subT.cons Z (subT.cons Z (subT.cons Z (subT.cons Z (subT.cons Z (subT.cons Z (subT.cons (congrArg (fun z => some (I z)) (by simp only [x1M]; simp_all <;> (try omega))) subT.nil))))))))))
       ·
        exact h_skip<|join rfl () (.refl _) (List.nil_sublist _) (subT.cons Z (subT.cons Z (subT.cons Z (subT.cons Z (subT.cons Z (subT.cons Z (subT.cons Z (subT.cons Z (subT.cons Z (subT.cons (congrArg (fun z => some (I z)) (by simp only [x1M]; simp_all <;> (try omega))) subT.nil))))))))))
      ·
       have g27 : _ = false := g27
       exact U Z Z g27 K<|W Z Z Z K<|o_pickf Z g27 rfl K<|o_pickf Z Z Z K<|o_nil<|h_condf Z Z<|h_skip<|join rfl () (.refl _) (List.nil_sublist _) (subT.cons Z (subT.cons Z (subT.cons Z (subT.cons Z (subT.cons Z (subT.cons Z (subT.cons Z (subT.cons Z (subT.cons Z (subT.cons (congrArg (fun z => some (I z)) (by simp only [x1M]; simp_all <;> (try omega))) subT.nil))))))))))
   ·
    intro _
    refine h_seqK (ι := Unit) (fun _ => [(0, V (a.map encB) fa), (1, V (b.map encB) fb), (2, I way), (3, I fr), (4, I to), (12, V ((edgesM a b).map encI) fe), (13, V [] true), (14, I (i : Nat)), (16, I (holderR b ((edgesM a b).getD ((i : Nat) : Int).toNat 0))), (15, I (x2M way (holderR a ((edgesM a b).getD ((i : Nat) : Int).toNat 0)) (holderR b ((edgesM a b).getD ((i : Nat) : Int).toNat 0))))]) (fun _ => []) ?_ ?_
    ·
     refine h_seq<|H<|G Z K<|o_cmp Z Z Z K<|G Z K<|o_guard Z Z K (fun g31 => ?_) (fun g31 => ?_)
     ·
      have g31 : _ = true := g31
      refine G Z K<|W Z Z g31 K<|o_cmp Z Z Z K<|o_pickt Z g31 rfl K<|o_nil<|h_cond Z (fun c33 => ?_) (fun c33 => ?_)
      ·
       exact H<|S Z K<|o_nil<|join rfl () (.refl _) (List.nil_sublist _) (subT.cons Z (subT.cons Z (subT.cons Z (subT.cons Z (subT.cons Z (subT.cons Z (subT.cons Z (subT.cons Z (subT.cons Z (subT.cons (congrArg (fun z => some (I z)) (by simp only [x2M]; simp_all <;> (try omega))) subT.nil))))))))))
      ·
       exact h_skip<|join rfl () (.refl _) (List.nil_sublist _) (subT.cons Z (subT.cons Z (subT.cons Z (subT.cons Z (subT.cons Z (subT.cons Z (subT.cons Z (subT.cons Z (subT.cons Z (subT.cons (congrArg (fun z => some (I z)) (by simp only [x2M]; simp_all <;> (try omega))) subT.nil))))))))))
     ·
      have g31 : _ = false := g31
      exact U Z Z g31 K<|o_pickf Z g31 rfl K<|o_nil<|h_condf Z Z<|h_skip<|join rfl () (.refl _) (List.nil_sublist _) (subT.cons Z (subT.cons Z (subT.cons Z (subT.cons Z (subT.cons Z (subT.cons Z (subT.cons Z (subT.cons Z (subT.cons Z (subT.cons (congrArg (fun z => some (I z)) (by simp only [x2M]; simp_all <;> (try omega))) subT.nil))))))))))
    ·
     intro _
     refine h_seqK (ι := Unit) (fun _ => [(0, V (a.map encB) fa), (1, V (b.map encB) fb), (2, I way), (3, I fr), (4, I to), (12, V ((edgesM a b).map encI) fe), (13, V [] true), (14, I (i : Nat)), (16, I (holderR b ((edgesM a b).getD ((i : Nat) : Int).toNat 0))), (15, I (x3M way fr to (holderR a ((edgesM a b).getD ((i : Nat) : Int).toNat 0)) (holderR b ((edgesM a b).getD ((i : Nat) : Int).toNat 0))))]) (fun _ => []) ?_ ?_
     ·
      refine h_seq<|H<|G Z K<|o_cmp Z Z Z K<|G Z K<|o_guard Z Z K (fun g35 => ?_) (fun g35 => ?_)
      ·
       have g35 : _ = true := g35
       refine G Z K<|W Z Z g35 K<|G Z K<|W Z Z g35 K<|o_cmp Z Z Z K<|o_pickt Z g35 rfl K<|o_nil<|h_cond Z (fun c37 => ?_) (fun c37 => ?_)
       ·
        exact H<|G Z K<|S Z K<|o_nil<|join rfl () (.refl _) (List.nil_sublist _) (subT.cons Z (subT.cons Z (subT.cons Z (subT.cons Z (subT.cons Z (subT.cons Z (subT.cons Z (subT.cons Z (subT.cons Z (subT.cons (congrArg (fun z => some (I z)) (by simp only [x3M]; simp_all <;> (try omega))) subT.nil))))))))))
       ·
        exact h_skip<|join rfl () (.refl _) (List.nil_sublist _) (subT.cons Z (subT.cons Z (subT.cons Z (subT.cons Z (subT.cons Z (subT.cons Z (subT.cons Z (subT.cons Z (subT.cons Z (subT.cons (congrArg (fun z => some (I z)) (by simp only [x3M]; simp_all <;> (try omega))) subT.nil))))))))))
      ·
       have g35 : _ = false := g35
       exact U Z Z g35 K<|U Z Z g35 K<|o_pickf Z g35 rfl K<|o_nil<|h_condf Z Z<|h_skip<|join rfl () (.refl _) (List.nil_sublist _) (subT.cons Z (subT.cons Z (subT.cons Z (subT.cons Z (subT.cons Z (subT.cons Z (subT.cons Z (subT.cons Z (subT.cons Z (subT.cons (congrArg (fun z => some (I z)) (by simp only [x3M]; simp_all <;> (try omega))) subT.nil))))))))))
     ·
      intro _
      refine h_seq<|h_seq<|H<|G Z K<|o_cmp Z Z Z K<|o_nil<|h_cond Z (fun c39 => ?_) (fun c39 => ?_)
      ·
       refine h_exit<|H<|G Z K<|o_add Z Z (by unfold in64; (try dsimp only); omega) K ?_
       refine S Z K<|o_nil ?_
       have hx := c39
       simp only [decide_eq_true_eq, decide_eq_false_iff_not, Int.toNat_natCast] at hx
       have hs : (outR a b way fr to (edgesM a b)) (i + 1) = addR (outR a b way fr to (edgesM a b) i) ((edgesM a b).getD i 0) ((edgesM a b).getD (i + 1) 0) (xR a b way fr to ((edgesM a b).getD i 0)) := rfl
       have hq : (outR a b way fr to (edgesM a b)) (i + 1) = (outR a b way fr to (edgesM a b) i) := by rw [hs]; exact addR_neg hx
       refine back rfl (.inl ⟨i + 1, by omega, by rw [hq]; exact ho⟩) (by dsimp only; omega) (.refl _) (subT.cons Z (subT.cons Z (subT.cons Z (subT.cons Z (subT.cons Z (subT.cons Z (subT.cons Z (subT.cons Z subT.nil))))))))
      ·
       refine h_skip<|h_seq<|H<|G Z K<|o_len Z K<|S Z K<|o_nil<|h_seq<|h_draw _ (List.nil_sublist _) [(0, .flo), (1, .flo), (2, .flo), (3, .flo), (4, .flo), (5, .flo), (6, .flo), (7, .flo), (8, .flo), (9, .flo), (10, .val), (11, .flo), (12, .flo), (13, .flo), (14, .val), (15, .flo), (16, .flo), (17, .flo), (18, .flo), (19, .flo), (20, .flo), (21, .flo), (22, .flo), (23, .flo), (24, .val), (25, .flo), (26, .flo), (27, .flo)] mixed (by kernel_rfl)<|C Z Z (fun jj => G Z K jj)<|C Z Z (fun jj => o_cmp Z Z Z K jj)<|C Z Z (fun jj => G Z K jj) ?_
       refine C Z Z (fun jj => U Z Z K K jj)<|C Z Z (fun jj => U Z Z K K jj)<|C Z Z (fun jj => U Z Z K K jj)<|C Z Z (fun jj => U Z Z K K jj)<|C Z Z (fun jj => U Z Z K K jj)<|C Z Z (fun jj => U Z Z K K jj)<|C Z Z (fun jj => U Z Z K K jj)<|c_val Z Z (fun _ _ _ _ jj => U Z Z K K jj)<|C Z Z (fun jj => U Z Z K K jj)<|C Z Z (fun jj => U Z Z K K jj)<|C Z Z (fun jj => U Z Z K K jj)<|c_val Z Z (fun _ _ _ _ jj => U Z Z K K jj) ?_
       refine C Z Z (fun jj => U Z Z K K jj)<|C Z Z (fun jj => o_pickf Z K rfl K jj)<|C Z Z (fun jj => G Z K jj)<|C Z Z (fun jj => U Z Z Z K jj)<|C Z Z (fun jj => U Z Z Z K jj)<|C Z Z (fun jj => U Z Z Z K jj)<|C Z Z (fun jj => U Z Z Z K jj)<|C Z Z (fun jj => U Z Z Z K jj)<|C Z Z (fun jj => U Z Z Z K jj)<|c_val Z Z (fun _ _ _ _ jj => U Z Z Z K jj)<|C Z Z (fun jj => U Z Z Z K jj)<|C Z Z (fun jj => U Z Z Z K jj) ?_
       refine C Z Z (fun jj => o_pickf Z Z Z K jj)<|c_nil<|h_condf Z Z<|h_draw _ (List.nil_sublist _) [(0, .flo), (1, .flo), (2, .flo), (3, .flo), (4, .val), (5, .flo), (6, .flo), (7, .flo), (8, .flo), (9, .val), (10, .flo), (11, .flo), (12, .flo), (13, .flo), (14, .bar), (15, .bar)] mixed (by kernel_rfl)<|C Z Z (fun jj => G Z K jj)<|C Z Z (fun jj => G Z K jj)<|C Z Z (fun jj => G Z K jj)<|C Z Z (fun jj => o_idxv Z Z (by first | omega | (have := List.length_pos_iff.2 hne; omega)) (eltIn (by first | omega | (simp; omega))) rfl K jj) ?_
       refine c_val Z Z (fun _ _ _ _ jj => o_loadv Z Z K jj)<|C Z Z (fun jj => G Z K jj)<|C Z Z (fun jj => G Z K jj)<|C Z Z (fun jj => o_add Z Z (by unfold in64; (try dsimp only); omega) K jj) ?_
       refine C Z Z (fun jj => o_idxv Z Z (by first | omega | (have := List.length_pos_iff.2 hne; omega)) (eltIn (by first | omega | (simp; omega))) rfl K jj) ?_
       refine c_val Z Z (fun _ _ _ _ jj => o_loadv Z Z K jj)<|C Z Z (fun jj => o_build Z Z K jj)<|C Z Z (fun jj => G Z K jj)<|C Z Z (fun jj => o_build Z Z K jj)<|C Z Z (fun jj => o_buildSlicep Z (by rfl) (by rfl) (by rfl) (by rfl) K jj) ?_
       refine c_bar<|o_appendv Z Z (Src.v _ _) (okB_one rfl) (by simp [chunk]) (by rw [chunk_length]; omega) (by simp [chunk_length]; try omega) K fun x41 c42 hc43 => ?_
       refine S Z K<|o_nil<|H<|G Z K<|o_add Z Z (by unfold in64; (try dsimp only); omega) K ?_
       refine S Z K<|o_nil ?_
       have hx := c39
       simp only [decide_eq_true_eq, decide_eq_false_iff_not, Int.toNat_natCast] at hx
       have hs : (outR a b way fr to (edgesM a b)) (i + 1) = addR (outR a b way fr to (edgesM a b) i) ((edgesM a b).getD i 0) ((edgesM a b).getD (i + 1) 0) (xR a b way fr to ((edgesM a b).getD i 0)) := rfl
       have hq : (outR a b way fr to (edgesM a b)) (i + 1) = [⟨(edgesM a b).getD i 0, (edgesM a b).getD (i + 1) 0, (xR a b way fr to ((edgesM a b).getD i 0))⟩] := by rw [hs, ho]; exact addR_nil hx
       refine back rfl (.inr ⟨i + 1, x41, c42, _, _, by omega, (by rw [hq, ← succN']; rfl), (by rw [hq]; simp [chunk_length]), by rw [hq]; simp, (by simpa [chunk_length] using hc43)⟩) (by dsimp only; omega) (.cons_cons _ (.refl _)) (subT.cons Z (subT.cons Z (subT.cons Z (subT.cons Z (subT.cons Z (subT.cons Z (subT.cons Z (subT.cons Z subT.nil))))))))
  ·
   have hol := outR_len a b way fr to (edgesM a b) i
   have hie : i = (edgesM a b).length - 1 := by omega
   refine h_seq<|h_seq<|H<|G Z K<|o_add Z Z (by unfold in64; (try dsimp only); omega) K ?_
   refine G Z K<|o_len Z K<|o_cmp Z Z Z K<|o_nil<|h_condf Z (by simp; omega) ?_
   refine h_exit<|h_seq<|h_seq<|H<|G Z K<|o_call1 Z Z EntC.out K (rvalid_spec ([] : List Blk) (by simp) true) ?_
   rw [← ho]
   refine o_not Z K<|o_nil<|h_cond Z (fun c46 => ?_) (fun c46 => ?_)
   ·
    refine h_seq<|H<|S Z K<|S Z K<|o_nil<|h_ret ?_
    have hq : combR a b way fr to = ([], 130) := by unfold combR; rw [← hie]; rw [if_neg (by simp_all)]
    exact retG [] (.cons (resT rfl) (.cons (resT rfl) .nil)) (List.nil_sublist _) ⟨_, rfl, by rw [hq]; rfl, rfl⟩
   ·
    refine h_skip<|h_seq<|H<|G Z K<|S Z K<|S Z K<|o_nil<|h_ret ?_
    have hq : combR a b way fr to = ((outR a b way fr to (edgesM a b) i), 0) := by unfold combR; rw [← hie]; rw [if_pos (by simp_all)]
    exact retG [] (.cons (resT rfl) (.cons (resT rfl) .nil)) (List.nil_sublist _) ⟨_, rfl, by rw [hq, ho]; rfl, rfl⟩
 ·
  dsimp only
  subst he; subst hl
  by_cases hlt : i + 1 < (edgesM a b).length
  ·
   have hol := outR_len a b way fr to (edgesM a b) i
   refine h_seq<|h_seq<|H<|G Z K<|o_add Z Z (by unfold in64; (try dsimp only); omega) K ?_
   refine G Z K<|o_len Z K<|o_cmp Z Z Z K<|o_nil<|h_condt Z (by simp; omega) ?_
   refine h_skip<|h_seq<|h_block<|h_seq<|H<|G Z K<|G Z K<|G Z K<|o_idxv Z Z (by first | omega | (have := List.length_pos_iff.2 hne; omega)) (eltIn (by first | omega | (simp; omega))) rfl K ?_
   refine o_loadv Z Z K<|o_call1 Z Z EntC.out K (holder_spec a (by omega) fa _)<|S Z K<|o_nil<|h_seq<|H<|G Z K<|G Z K<|G Z K<|o_idxv Z Z (by first | omega | (have := List.length_pos_iff.2 hne; omega)) (eltIn (by first | omega | (simp; omega))) rfl K ?_
   refine o_loadv Z Z K<|o_call1 Z Z EntC.out K (holder_spec b (by omega) fb _)<|S Z K<|o_nil<|h_seqK (ι := Unit) (fun _ => [(0, V (a.map encB) fa), (1, V (b.map encB) fb), (2, I way), (3, I fr), (4, I to), (12, V ((edgesM a b).map encI) fe), (13, .os ob 3 0 (outR a b way fr to (edgesM a b) i).length c), (14, I (i : Nat)), (16, I (holderR b ((edgesM a b).getD ((i : Nat) : Int).toNat 0))), (15, I (x1M way (holderR a ((edgesM a b).getD ((i : Nat) : Int).toNat 0)) (holderR b ((edgesM a b).getD ((i : Nat) : Int).toNat 0))))]) (fun _ => [(ob, .arr 116 3 ((outR a b way fr to (edgesM a b) i).map encB) c)]) ?_ ?_
   ·
    refine h_seq<|H<|G Z K<|o_cmp Z Z Z K<|G Z K<|o_guard Z Z K (fun g49 => ?_) (fun g49 => ?_)
    ·
     have g49 : _ = true := g49
     refine G Z K<|W Z Z g49 K<|o_cmp Z Z Z K<|o_pickt Z g49 rfl K<|G Z K<|o_guard Z Z K (fun g51 => ?_) (fun g51 => ?_)
     ·
      have g51 : _ = false := g51
      refine G Z K<|W Z Z g51 K<|o_cmp Z Z Z K<|W Z Z g51 K<|G Z K<|o_guard Z Z K (fun g53 => ?_) (fun g53 => ?_)
      ·
       have g53 : _ = true := g53
       refine G Z K<|W Z Z g53 K<|o_cmp Z Z Z K<|W Z Z g51 K<|o_pickt Z g53 rfl K<|o_pickf Z g51 rfl K<|G Z K<|o_guard Z Z K (fun g55 => ?_) (fun g55 => ?_)
       ·
        have g55 : _ = false := g55
        refine G Z K<|W Z Z g55 K<|o_cmp Z Z Z K<|W Z Z g55 K<|G Z K<|o_guard Z Z K (fun g57 => ?_) (fun g57 => ?_)
        ·
         have g57 : _ = true := g57
         refine G Z K<|W Z Z g57 K<|o_cmp Z Z Z K<|W Z Z g55 K<|o_pickt Z g57 rfl K<|o_pickf Z g55 rfl K<|o_nil<|h_cond Z (fun c59 => ?_) (fun c59 => ?_)
         ·
          exact H<|G Z K<|S Z K<|o_nil<|join rfl () (.refl _) (.cons_cons _ (List.nil_sublist _)) (subT.cons Z (subT.cons Z (subT.cons Z (subT.cons Z (subT.cons Z (subT.cons Z (subT.cons Z (subT.cons Z (subT.cons Z (subT.cons (congrArg (fun z => some (I z)) (by simp only [x1M]; simp_all <;> (try omega))) subT.nil))))))))))
         ·
          exact h_skip<|join rfl () (.refl _) (.cons_cons _ (List.nil_sublist _)) (subT.cons Z (subT.cons Z (subT.cons Z (subT.cons Z (subT.cons Z (subT.cons Z (subT.cons Z (subT.cons Z (subT.cons Z (subT.cons (congrArg (fun z => some (I z)) (by simp only [x1M]; simp_all <;> (try omega))) subT.nil))))))))))
        ·
         have g57 : _ = false := g57
         exact U Z Z g57 K<|W Z Z g55 K<|o_pickf Z g57 rfl K<|o_pickf Z g55 rfl K<|o_nil<|h_condf Z Z<|h_skip<|join rfl () (.refl _) (.cons_cons _ (List.nil_sublist _)) (subT.cons Z (subT.cons Z (subT.cons Z (subT.cons Z (subT.cons Z (subT.cons Z (subT.cons Z (subT.cons Z (subT.cons Z (subT.cons (congrArg (fun z => some (I z)) (by simp only [x1M]; simp_all <;> (try omega))) subT.nil))))))))))
       ·
        have g55 : _ = true := g55
        refine U Z Z g55 K<|U Z Z g55 K<|o_guardx Z Z K<|o_guardx Z Z K<|U Z Z g55 K<|o_pickt Z g55 rfl K<|o_nil<|h_condt Z Z<|H<|G Z K<|S Z K<|o_nil ?_
        exact join rfl () (.refl _) (.cons_cons _ (List.nil_sublist _)) (subT.cons Z (subT.cons Z (subT.cons Z (subT.cons Z (subT.cons Z (subT.cons Z (subT.cons Z (subT.cons Z (subT.cons Z (subT.cons (congrArg (fun z => some (I z)) (by simp only [x1M]; simp_all <;> (try omega))) subT.nil))))))))))
      ·
       have g53 : _ = false := g53
       refine U Z Z g53 K<|W Z Z g51 K<|o_pickf Z g53 rfl K<|o_pickf Z g51 rfl K<|G Z K<|W Z Z Z K<|G Z K<|W Z Z Z K<|o_cmp Z Z Z K<|W Z Z Z K<|G Z K<|o_guard Z Z K (fun g61 => ?_) (fun g61 => ?_)
       ·
        have g61 : _ = true := g61
        refine G Z K<|W Z Z g61 K<|o_cmp Z Z Z K<|W Z Z Z K<|o_pickt Z g61 rfl K<|o_pickf Z Z Z K<|o_nil<|h_cond Z (fun c63 => ?_) (fun c63 => ?_)
        ·
         exact H<|G Z K<|S Z K<|o_nil<|join rfl () (.refl _) (.cons_cons _ (List.nil_sublist _)) (subT.cons Z (subT.cons Z (subT.cons Z (subT.cons Z (subT.cons Z (subT.cons Z (subT.cons Z (subT.cons Z (subT.cons Z (subT.cons (congrArg (fun z => some (I z)) (by simp only [x1M]; simp_all <;> (try omega))) subT.nil))))))))))
        ·
         exact h_skip<|join rfl () (.refl _) (.cons_cons _ (List.nil_sublist _)) (subT.cons Z (subT.cons Z (subT.cons Z (subT.cons Z (subT.cons Z (subT.cons Z (subT.cons Z (subT.cons Z (subT.cons Z (subT.cons (congrArg (fun z => some (I z)) (by simp only [x1M]; simp_all <;> (try omega))) subT.nil))))))))))
       ·
        have g61 : _ = false := g61
        exact U Z Z g61 K<|W Z Z Z K<|o_pickf Z g61 rfl K<|o_pickf Z Z Z K<|o_nil<|h_condf Z Z<|h_skip<|join rfl () (.refl _) (.cons_cons _ (List.nil_sublist _)) (subT.cons Z (subT.cons Z (subT.cons Z (subT.cons Z (subT.cons Z (subT.cons Z (subT.cons Z (subT.cons Z (subT.cons Z (subT.cons (congrArg (fun z => some (I z)) (by simp only [x1M]; simp_all <;> (try omega))) subT.nil))))))))))
     ·
      have g51 : _ = true := g51
      refine U Z Z g51 K<|U Z Z g51 K<|o_guardx Z Z K<|o_guardx Z Z K<|U Z Z g51 K<|o_pickt Z g51 rfl K<|G Z K<|U Z Z Z K<|U Z Z Z K<|U Z Z Z K<|o_guardx Z Z K<|o_guardx Z Z K ?_
      exact U Z Z Z K<|o_pickt Z Z Z K<|o_nil<|h_condt Z Z<|H<|G Z K<|S Z K<|o_nil<|join rfl () (.refl _) (.cons_cons _ (List.nil_sublist _)) (subT.cons Z (subT.cons Z (subT.cons Z (subT.cons Z (subT.cons Z (subT.cons Z (subT.cons Z (subT.cons Z (subT.cons Z (subT.cons (congrArg (fun z => some (I z)) (by simp only [x1M]; simp_all <;> (try omega))) subT.nil))))))))))
    ·
     have g49 : _ = false := g49
     refine U Z Z g49 K<|o_pickf Z g49 rfl K<|G Z K<|W Z Z Z K<|G Z K<|W Z Z Z K<|o_cmp Z Z Z K<|W Z Z Z K<|G Z K<|o_guard Z Z K (fun g65 => ?_) (fun g65 => ?_)
     ·
      have g65 : _ = true := g65
      refine G Z K<|W Z Z g65 K<|o_cmp Z Z Z K<|W Z Z Z K<|o_pickt Z g65 rfl K<|o_pickf Z Z Z K<|G Z K<|o_guard Z Z K (fun g67 => ?_) (fun g67 => ?_)
      ·
       have g67 : _ = false := g67
       refine G Z K<|W Z Z g67 K<|o_cmp Z Z Z K<|W Z Z g67 K<|G Z K<|o_guard Z Z K (fun g69 => ?_) (fun g69 => ?_)
       ·
        have g69 : _ = true := g69
        refine G Z K<|W Z Z g69 K<|o_cmp Z Z Z K<|W Z Z g67 K<|o_pickt Z g69 rfl K<|o_pickf Z g67 rfl K<|o_nil<|h_cond Z (fun c71 => ?_) (fun c71 => ?_)
        ·
         exact H<|G Z K<|S Z K<|o_nil<|join rfl () (.refl _) (.cons_cons _ (List.nil_sublist _)) (subT.cons Z (subT.cons Z (subT.cons Z (subT.cons Z (subT.cons Z (subT.cons Z (subT.cons Z (subT.cons Z (subT.cons Z (subT.cons (congrArg (fun z => some (I z)) (by simp only [x1M]; simp_all <;> (try omega))) subT.nil))))))))))
        ·
         exact h_skip<|join rfl () (.refl _) (.cons_cons _ (List.nil_sublist _)) (subT.cons Z (subT.cons Z (subT.cons Z (subT.cons Z (subT.cons Z (subT.cons Z (subT.cons Z (subT.cons Z (subT.cons Z (subT.cons (congrArg (fun z => some (I z)) (by simp only [x1M]; simp_all <;> (try omega))) subT.nil))))))))))
       ·
        have g69 : _ = false := g69
        exact U Z Z g69 K<|W Z Z g67 K<|o_pickf Z g69 rfl K<|o_pickf Z g67 rfl K<|o_nil<|h_condf Z Z<|h_skip<|join rfl () (.refl _) (.cons_cons _ (List.nil_sublist _)) (subT.cons Z (subT.cons Z (subT.cons Z (subT.cons Z (subT.cons Z (subT.cons Z (subT.cons Z (subT.cons Z (subT.cons Z (subT.cons (congrArg (fun z => some (I z)) (by simp only [x1M]; simp_all <;> (try omega))) subT.nil))))))))))
      ·
       have g67 : _ = true := g67
       refine U Z Z g67 K<|U Z Z g67 K<|o_guardx Z Z K<|o_guardx Z Z K<|U Z Z g67 K<|o_pickt Z g67 rfl K<|o_nil<|h_condt Z Z<|H<|G Z K<|S Z K<|o_nil ?_
       exact join rfl () (.refl _) (.cons_cons _ (List.nil_sublist _)) (subT.cons Z (subT.cons Z (subT.cons Z (subT.cons Z (subT.cons Z (subT.cons Z (subT.cons Z (subT.cons Z (subT.cons Z (subT.cons (congrArg (fun z => some (I z)) (by simp only [x1M]; simp_all <;> (try omega))) subT.nil))))))))))
     ·
      have g65 : _ = false := g65
      refine U Z Z g65 K<|W Z Z Z K<|o_pickf Z g65 rfl K<|o_pickf Z Z Z K<|G Z K<|W Z Z Z K<|G Z K<|W Z Z Z K<|o_cmp Z Z Z K<|W Z Z Z K<|G Z K<|o_guard Z Z K (fun g73 => ?_) (fun g73 => ?_)
      ·
       have g73 : _ = true := g73
       refine G Z K<|W Z Z g73 K<|o_cmp Z Z Z K<|W Z Z Z K<|o_pickt Z g73 rfl K<|o_pickf Z Z Z K<|o_nil<|h_cond Z (fun c75 => ?_) (fun c75 => ?_)
       ·
        exact H<|G Z K<|S Z K<|o_nil<|join rfl () (.refl _) (.cons_cons _ (List.nil_sublist _)) (subT.cons Z (subT.cons Z (subT.cons Z (subT.cons Z (subT.cons Z (subT.cons Z (subT.cons Z (subT.cons Z (subT.cons Z (subT.cons (congrArg (fun z => some (I z)) (by simp only [x1M]; simp_all <;> (try omega))) subT.nil))))))))))
       ·
        exact h_skip<|join rfl () (.refl _) (.cons_cons _ (List.nil_sublist _)) (subT.cons Z (subT.cons Z (subT.cons Z (subT.cons Z (subT.cons Z (subT.cons Z (subT.cons Z (subT.cons Z (subT.cons Z (subT.cons (congrArg (fun z => some (I z)) (by simp only [x1M]; simp_all <;> (try omega))) subT.nil))))))))))
      ·
       have g73 : _ = false := g73
       exact U Z Z g73 K<|W Z Z Z K<|o_pickf Z g73 rfl K<|o_pickf Z Z Z K<|o_nil<|h_condf Z Z<|h_skip<|join rfl () (.refl _) (.cons_cons _ (List.nil_sublist _)) (subT.cons Z (subT.cons Z (subT.cons Z (subT.cons Z (subT.cons Z (subT.cons Z (subT.cons Z (subT.cons Z (subT.cons Z (subT.cons (congrArg (fun z => some (I z)) (by simp only [x1M]; simp_all <;> (try omega))) subT.nil))))))))))
   ·
    intro _
    refine h_seqK (ι := Unit) (fun _ => [(0, V (a.map encB) fa), (1, V (b.map encB) fb), (2, I way), (3, I fr), (4, I to), (12, V ((edgesM a b).map encI) fe), (13, .os ob 3 0 (outR a b way fr to (edgesM a b) i).length c), (14, I (i : Nat)), (16, I (holderR b ((edgesM a b).getD ((i : Nat) : Int).toNat 0))), (15, I (x2M way (holderR a ((edgesM a b).getD ((i : Nat) : Int).toNat 0)) (holderR b ((edgesM a b).getD ((i : Nat) : Int).toNat 0))))]) (fun _ => [(ob, .arr 116 3 ((outR a b way fr to (edgesM a b) i).map encB) c)]) ?_ ?_
    ·
     refine h_seq<|H<|G Z K<|o_cmp Z Z Z K<|G Z K<|o_guard Z Z K (fun g77 => ?_) (fun g77 => ?_)
     ·
      have g77 : _ = true := g77
      refine G Z K<|W Z Z g77 K<|o_cmp Z Z Z K<|o_pickt Z g77 rfl K<|o_nil<|h_cond Z (fun c79 => ?_) (fun c79 => ?_)
      ·
       exact H<|S Z K<|o_nil<|join rfl () (.refl _) (.cons_cons _ (List.nil_sublist _)) (subT.cons Z (subT.cons Z (subT.cons Z (subT.cons Z (subT.cons Z (subT.cons Z (subT.cons Z (subT.cons Z (subT.cons Z (subT.cons (congrArg (fun z => some (I z)) (by simp only [x2M]; simp_all <;> (try omega))) subT.nil))))))))))
      ·
       exact h_skip<|join rfl () (.refl _) (.cons_cons _ (List.nil_sublist _)) (subT.cons Z (subT.cons Z (subT.cons Z (subT.cons Z (subT.cons Z (subT.cons Z (subT.cons Z (subT.cons Z (subT.cons Z (subT.cons (congrArg (fun z => some (I z)) (by simp only [x2M]; simp_all <;> (try omega))) subT.nil))))))))))
     ·
      have g77 : _ = false := g77
      exact U Z Z g77 K<|o_pickf Z g77 rfl K<|o_nil<|h_condf Z Z<|h_skip<|join rfl () (.refl _) (.cons_cons _ (List.nil_sublist _)) (subT.cons Z (subT.cons Z (subT.cons Z (subT.cons Z (subT.cons Z (subT.cons Z (subT.cons Z (subT.cons Z (subT.cons Z (subT.cons (congrArg (fun z => some (I z)) (by simp only [x2M]; simp_all <;> (try omega))) subT.nil))))))))))
    ·
     intro _
     refine h_seqK (ι := Unit) (fun _ => [(0, V (a.map encB) fa), (1, V (b.map encB) fb), (2, I way), (3, I fr), (4, I to), (12, V ((edgesM a b).map encI) fe), (13, .os ob 3 0 (outR a b way fr to (edgesM a b) i).length c), (14, I (i : Nat)), (16, I (holderR b ((edgesM a b).getD ((i : Nat) : Int).toNat 0))), (15, I (x3M way fr to (holderR a ((edgesM a b).getD ((i : Nat) : Int).toNat 0)) (holderR b ((edgesM a b).getD ((i : Nat) : Int).toNat 0))))]) (fun _ => [(ob, .arr 116 3 ((outR a b way fr to (edgesM a b) i).map encB) c)]) ?_ ?_
     ·
      refine h_seq<|H<|G Z K<|o_cmp Z Z Z K<|G Z K<|o_guard Z Z K (fun g81 => ?_) (fun g81 => ?_)
      ·
       have g81 : _ = true := g81
       refine G Z K<|W Z Z g81 K<|G Z K<|W Z Z g81 K<|o_cmp Z Z Z K<|o_pickt Z g81 rfl K<|o_nil<|h_cond Z (fun c83 => ?_) (fun c83 => ?_)
       ·
        exact H<|G Z K<|S Z K<|o_nil<|join rfl () (.refl _) (.cons_cons _ (List.nil_sublist _)) (subT.cons Z (subT.cons Z (subT.cons Z (subT.cons Z (subT.cons Z (subT.cons Z (subT.cons Z (subT.cons Z (subT.cons Z (subT.cons (congrArg (fun z => some (I z)) (by simp only [x3M]; simp_all <;> (try omega))) subT.nil))))))))))
       ·
        exact h_skip<|join rfl () (.refl _) (.cons_cons _ (List.nil_sublist _)) (subT.cons Z (subT.cons Z (subT.cons Z (subT.cons Z (subT.cons Z (subT.cons Z (subT.cons Z (subT.cons Z (subT.cons Z (subT.cons (congrArg (fun z => some (I z)) (by simp only [x3M]; simp_all <;> (try omega))) subT.nil))))))))))
      ·
       have g81 : _ = false := g81
       exact U Z Z g81 K<|U Z Z g81 K<|o_pickf Z g81 rfl K<|o_nil<|h_condf Z Z<|h_skip<|join rfl () (.refl _) (.cons_cons _ (List.nil_sublist _)) (subT.cons Z (subT.cons Z (subT.cons Z (subT.cons Z (subT.cons Z (subT.cons Z (subT.cons Z (subT.cons Z (subT.cons Z (subT.cons (congrArg (fun z => some (I z)) (by simp only [x3M]; simp_all <;> (try omega))) subT.nil))))))))))
     ·
      intro _
      refine h_seq<|h_seq<|H<|G Z K<|o_cmp Z Z Z K<|o_nil<|h_cond Z (fun c85 => ?_) (fun c85 => ?_)
      ·
       refine h_exit<|H<|G Z K<|o_add Z Z (by unfold in64; (try dsimp only); omega) K ?_
       refine S Z K<|o_nil ?_
       have hx := c85
       simp only [decide_eq_true_eq, decide_eq_false_iff_not, Int.toNat_natCast] at hx
       have hs : (outR a b way fr to (edgesM a b)) (i + 1) = addR (outR a b way fr to (edgesM a b) i) ((edgesM a b).getD i 0) ((edgesM a b).getD (i + 1) 0) (xR a b way fr to ((edgesM a b).getD i 0)) := rfl
       have hq : (outR a b way fr to (edgesM a b)) (i + 1) = (outR a b way fr to (edgesM a b) i) := by rw [hs]; exact addR_neg hx
       refine back rfl (.inr ⟨i + 1, ob, c, _, _, by omega, by rw [hq], by rw [hq], by rw [hq]; exact hne, hc⟩) (by dsimp only; omega) (.cons_cons _ (.refl _)) (subT.cons Z (subT.cons Z (subT.cons Z (subT.cons Z (subT.cons Z (subT.cons Z (subT.cons Z (subT.cons Z subT.nil))))))))
      ·
       refine h_skip<|h_seq<|H<|G Z K<|o_leno Z K<|S Z K<|o_nil<|h_seq<|h_draw _ (List.nil_sublist _) [(0, .flo), (1, .flo), (2, .flo), (3, .flo), (4, .flo), (5, .flo), (6, .flo), (7, .flo), (8, .flo), (9, .flo), (10, .val), (11, .flo), (12, .flo), (13, .flo), (14, .val), (15, .flo), (16, .flo), (17, .flo), (18, .flo), (19, .flo), (20, .flo), (21, .flo), (22, .flo), (23, .flo), (24, .val), (25, .flo), (26, .flo), (27, .flo)] mixed (by kernel_rfl)<|C Z Z (fun jj => G Z K jj)<|C Z Z (fun jj => o_cmp Z Z Z K jj)<|C Z Z (fun jj => G Z K jj) ?_
       refine C Z Z (fun jj => W Z Z (by have := List.length_pos_iff.2 hne; simp; omega) K (G Z K jj)) ?_
       refine C Z Z (fun jj => W Z Z (by have := List.length_pos_iff.2 hne; simp; omega) K (G Z K jj)) ?_
       refine C Z Z (fun jj => W Z Z (by have := List.length_pos_iff.2 hne; simp; omega) K (o_sub Z Z (by unfold in64; (try dsimp only); omega) K jj)) ?_
       refine C Z Z (fun jj => W Z Z (by have := List.length_pos_iff.2 hne; simp; omega) K (o_max Z Z K jj)) ?_
       refine C Z Z (fun jj => W Z Z (by have := List.length_pos_iff.2 hne; simp; omega) K (o_idxo Z Z (by first | omega | (have := List.length_pos_iff.2 hne; omega)) (by have := List.length_pos_iff.2 hne; simp; omega) K jj)) ?_
       refine C Z Z (fun jj => W Z Z (by have := List.length_pos_iff.2 hne; simp; omega) K (o_faddre Z Z K K jj)) ?_
       refine C Z Z (fun jj => W Z Z (by have := List.length_pos_iff.2 hne; simp; omega) K (o_faddre Z Z K K jj)) ?_
       refine c_val Z Z (fun _ _ _ _ jj => W Z Z (by have := List.length_pos_iff.2 hne; simp; omega) K (o_loade 0 Z Z (lastM hne) rfl rfl K jj)) ?_
       refine C Z Z (fun jj => W Z Z (by have := List.length_pos_iff.2 hne; simp; omega) K (G Z K jj)) ?_
       refine C Z Z (fun jj => W Z Z (by have := List.length_pos_iff.2 hne; simp; omega) K (G Z K jj)) ?_
       refine C Z Z (fun jj => W Z Z (by have := List.length_pos_iff.2 hne; simp; omega) K (o_idxv Z Z (by first | omega | (have := List.length_pos_iff.2 hne; omega)) (eltIn (by first | omega | (simp; omega))) rfl K jj)) ?_
       refine c_val Z Z (fun _ _ _ _ jj => W Z Z (by have := List.length_pos_iff.2 hne; simp; omega) K (o_loadv Z Z K jj)) ?_
       refine C Z Z (fun jj => W Z Z (by have := List.length_pos_iff.2 hne; simp; omega) K (o_cmp Z Z Z K jj)) ?_
       refine C Z Z (fun jj => o_pickt Z (by have := List.length_pos_iff.2 hne; simp; omega) rfl K jj) ?_
       refine C Z Z (fun jj => G Z K jj)<|c_split (t := 98) rfl (fun g88 => ?_) (fun g88 => ?_)
       ·
        have g88 : _ = true := g88
        refine C Z Z (fun jj => W Z Z g88 K (G Z K jj))<|C Z Z (fun jj => W Z Z g88 K (G Z K jj))<|C Z Z (fun jj => W Z Z g88 K (o_sub Z Z (by unfold in64; (try dsimp only); omega) K jj)) ?_
        refine C Z Z (fun jj => W Z Z g88 K (o_max Z Z K jj))<|C Z Z (fun jj => W Z Z g88 K (o_idxo Z Z (by first | omega | (have := List.length_pos_iff.2 hne; omega)) (by have := List.length_pos_iff.2 hne; simp; omega) K jj)) ?_
        refine C Z Z (fun jj => W Z Z g88 K (o_faddre Z Z K K jj))<|c_val Z Z (fun _ _ _ _ jj => W Z Z g88 K (o_loade 0 Z Z (lastM hne) rfl rfl K jj))<|C Z Z (fun jj => W Z Z g88 K (G Z K jj))<|C Z Z (fun jj => W Z Z g88 K (o_cmp Z Z Z K jj))<|C Z Z (fun jj => o_pickt Z g88 rfl K jj)<|c_nil<|h_cond Z (fun c90 => ?_) (fun c90 => ?_)
        ·
         refine H<|G Z K<|G Z K<|o_sub Z Z (by unfold in64; (try dsimp only); omega) K ?_
         refine G Z K<|G Z K<|o_add Z Z (by unfold in64; (try dsimp only); omega) K ?_
         refine o_idxv Z Z (by first | omega | (have := List.length_pos_iff.2 hne; omega)) (eltIn (by first | omega | (simp; omega))) rfl K ?_
         refine o_loadv Z Z K<|o_idxo Z Z (by first | omega | (have := List.length_pos_iff.2 hne; omega)) (by have := List.length_pos_iff.2 hne; simp; omega) K ?_
         refine o_faddre Z Z K K<|o_faddre Z Z K K ?_
         refine o_storee 0 Z Z (lastE hne) rfl rfl rfl rfl (by simp [encB]) ?_
         refine o_nil<|H<|G Z K<|o_add Z Z (by unfold in64; (try dsimp only); omega) K ?_
         refine S Z K<|o_nil ?_
         have hx := c85
         simp only [decide_eq_true_eq, decide_eq_false_iff_not, Int.toNat_natCast] at hx
         have hs : (outR a b way fr to (edgesM a b)) (i + 1) = addR (outR a b way fr to (edgesM a b) i) ((edgesM a b).getD i 0) ((edgesM a b).getD (i + 1) 0) (xR a b way fr to ((edgesM a b).getD i 0)) := rfl
         have hd : ((outR a b way fr to (edgesM a b) i).getLast hne).t = (edgesM a b).getD i 0 ∧ ((outR a b way fr to (edgesM a b) i).getLast hne).c = (xR a b way fr to ((edgesM a b).getD i 0)) := by simp_all [xR]
         have hq : (outR a b way fr to (edgesM a b)) (i + 1) = (outR a b way fr to (edgesM a b) i).dropLast ++ [⟨((outR a b way fr to (edgesM a b) i).getLast hne).f, (edgesM a b).getD (i + 1) 0, ((outR a b way fr to (edgesM a b) i).getLast hne).c⟩] := by rw [hs]; exact addR_long hx hne hd
         refine back rfl (.inr ⟨i + 1, ob, c, _, _, by omega, (by rw [hq, ← succN']; exact set_last hne ⟨_, (edgesM a b).getD ((i : Int) + 1).toNat 0, _⟩), (by rw [hq]; simp; have := List.length_pos_iff.2 hne; omega), by rw [hq]; simp, hc⟩) (by dsimp only; omega) (.cons_cons _ (.refl _)) (subT.cons Z (subT.cons Z (subT.cons Z (subT.cons Z (subT.cons Z (subT.cons Z (subT.cons Z (subT.cons Z subT.nil))))))))
        ·
         refine h_draw _ (List.nil_sublist _) [(0, .flo), (1, .flo), (2, .flo), (3, .flo), (4, .val), (5, .flo), (6, .flo), (7, .flo), (8, .flo), (9, .val), (10, .flo), (11, .flo), (12, .flo), (13, .flo), (14, .bar), (15, .bar)] mixed (by kernel_rfl)<|C Z Z (fun jj => G Z K jj)<|C Z Z (fun jj => G Z K jj)<|C Z Z (fun jj => G Z K jj)<|C Z Z (fun jj => o_idxv Z Z (by first | omega | (have := List.length_pos_iff.2 hne; omega)) (eltIn (by first | omega | (simp; omega))) rfl K jj) ?_
         refine c_val Z Z (fun _ _ _ _ jj => o_loadv Z Z K jj)<|C Z Z (fun jj => G Z K jj)<|C Z Z (fun jj => G Z K jj)<|C Z Z (fun jj => o_add Z Z (by unfold in64; (try dsimp only); omega) K jj) ?_
         refine C Z Z (fun jj => o_idxv Z Z (by first | omega | (have := List.length_pos_iff.2 hne; omega)) (eltIn (by first | omega | (simp; omega))) rfl K jj) ?_
         refine c_val Z Z (fun _ _ _ _ jj => o_loadv Z Z K jj)<|C Z Z (fun jj => o_build Z Z K jj)<|C Z Z (fun jj => G Z K jj)<|C Z Z (fun jj => o_build Z Z K jj)<|C Z Z (fun jj => o_buildSlicep Z (by rfl) (by rfl) (by rfl) (by rfl) K jj) ?_
         refine c_bar<|o_append 0 Z Z Z (Src.v _ _) (okB_one rfl) (by simp) (by simp [chunk_length]; try omega) K fun x91 c92 hc93 => ?_
         refine S Z K<|o_nil<|H<|G Z K<|o_add Z Z (by unfold in64; (try dsimp only); omega) K ?_
         refine S Z K<|o_nil ?_
         have hx := c85
         simp only [decide_eq_true_eq, decide_eq_false_iff_not, Int.toNat_natCast] at hx
         have hs : (outR a b way fr to (edgesM a b)) (i + 1) = addR (outR a b way fr to (edgesM a b) i) ((edgesM a b).getD i 0) ((edgesM a b).getD (i + 1) 0) (xR a b way fr to ((edgesM a b).getD i 0)) := rfl
         have hd : ¬ (((outR a b way fr to (edgesM a b) i).getLast hne).t = (edgesM a b).getD i 0 ∧ ((outR a b way fr to (edgesM a b) i).getLast hne).c = (xR a b way fr to ((edgesM a b).getD i 0))) := by simp_all [xR]
         have hq : (outR a b way fr to (edgesM a b)) (i + 1) = (outR a b way fr to (edgesM a b) i) ++ [⟨(edgesM a b).getD i 0, (edgesM a b).getD (i + 1) 0, (xR a b way fr to ((edgesM a b).getD i 0))⟩] := by rw [hs]; exact addR_more hx hne hd
         refine back rfl (.inr ⟨i + 1, x91, c92, _, _, by omega, (by rw [hq, ← succN', List.map_append]; rfl), (by rw [hq]; simp [chunk_length]), by rw [hq]; simp, (by simpa [chunk_length] using hc93)⟩) (by dsimp only; omega) (.cons_cons _ (.refl _)) (subT.cons Z (subT.cons Z (subT.cons Z (subT.cons Z (subT.cons Z (subT.cons Z (subT.cons Z (subT.cons Z subT.nil))))))))
       ·
        have g88 : _ = false := g88
        refine C Z Z (fun jj => U Z Z g88 K jj)<|C Z Z (fun jj => U Z Z g88 K jj)<|C Z Z (fun jj => U Z Z g88 K jj)<|C Z Z (fun jj => U Z Z g88 K jj)<|C Z Z (fun jj => U Z Z g88 K jj)<|C Z Z (fun jj => U Z Z g88 K jj)<|c_val Z Z (fun _ _ _ _ jj => U Z Z g88 K jj)<|C Z Z (fun jj => U Z Z g88 K jj)<|C Z Z (fun jj => U Z Z g88 K jj)<|C Z Z (fun jj => o_pickf Z g88 rfl K jj)<|c_nil<|h_condf Z Z ?_
        refine h_draw _ (List.nil_sublist _) [(0, .flo), (1, .flo), (2, .flo), (3, .flo), (4, .val), (5, .flo), (6, .flo), (7, .flo), (8, .flo), (9, .val), (10, .flo), (11, .flo), (12, .flo), (13, .flo), (14, .bar), (15, .bar)] mixed (by kernel_rfl)<|C Z Z (fun jj => G Z K jj)<|C Z Z (fun jj => G Z K jj)<|C Z Z (fun jj => G Z K jj)<|C Z Z (fun jj => o_idxv Z Z (by first | omega | (have := List.length_pos_iff.2 hne; omega)) (eltIn (by first | omega | (simp; omega))) rfl K jj) ?_
        refine c_val Z Z (fun _ _ _ _ jj => o_loadv Z Z K jj)<|C Z Z (fun jj => G Z K jj)<|C Z Z (fun jj => G Z K jj)<|C Z Z (fun jj => o_add Z Z (by unfold in64; (try dsimp only); omega) K jj) ?_
        refine C Z Z (fun jj => o_idxv Z Z (by first | omega | (have := List.length_pos_iff.2 hne; omega)) (eltIn (by first | omega | (simp; omega))) rfl K jj) ?_
        refine c_val Z Z (fun _ _ _ _ jj => o_loadv Z Z K jj)<|C Z Z (fun jj => o_build Z Z K jj)<|C Z Z (fun jj => G Z K jj)<|C Z Z (fun jj => o_build Z Z K jj)<|C Z Z (fun jj => o_buildSlicep Z (by rfl) (by rfl) (by rfl) (by rfl) K jj) ?_
        refine c_bar<|o_append 0 Z Z Z (Src.v _ _) (okB_one rfl) (by simp) (by simp [chunk_length]; try omega) K fun x94 c95 hc96 => ?_
        refine S Z K<|o_nil<|H<|G Z K<|o_add Z Z (by unfold in64; (try dsimp only); omega) K ?_
        refine S Z K<|o_nil ?_
        have hx := c85
        simp only [decide_eq_true_eq, decide_eq_false_iff_not, Int.toNat_natCast] at hx
        have hs : (outR a b way fr to (edgesM a b)) (i + 1) = addR (outR a b way fr to (edgesM a b) i) ((edgesM a b).getD i 0) ((edgesM a b).getD (i + 1) 0) (xR a b way fr to ((edgesM a b).getD i 0)) := rfl
        have hd : ¬ (((outR a b way fr to (edgesM a b) i).getLast hne).t = (edgesM a b).getD i 0 ∧ ((outR a b way fr to (edgesM a b) i).getLast hne).c = (xR a b way fr to ((edgesM a b).getD i 0))) := by simp_all [xR]
        have hq : (outR a b way fr to (edgesM a b)) (i + 1) = (outR a b way fr to (edgesM a b) i) ++ [⟨(edgesM a b).getD i 0, (edgesM a b).getD (i + 1) 0, (xR a b way fr to ((edgesM a b).getD i 0))⟩] := by rw [hs]; exact addR_more hx hne hd
        refine back rfl (.inr ⟨i + 1, x94, c95, _, _, by omega, (by rw [hq, ← succN', List.map_append]; rfl), (by rw [hq]; simp [chunk_length]), by rw [hq]; simp, (by simpa [chunk_length] using hc96)⟩) (by dsimp only; omega) (.cons_cons _ (.refl _)) (subT.cons Z (subT.cons Z (subT.cons Z (subT.cons Z (subT.cons Z (subT.cons Z (subT.cons Z (subT.cons Z subT.nil))))))))
  ·
   have hol := outR_len a b way fr to (edgesM a b) i
   have hie : i = (edgesM a b).length - 1 := by omega
   refine h_seq<|h_seq<|H<|G Z K<|o_add Z Z (by unfold in64; (try dsimp only); omega) K ?_
   refine G Z K<|o_len Z K<|o_cmp Z Z Z K<|o_nil<|h_condf Z (by simp; omega) ?_
   refine h_exit<|h_seq<|h_seq<|H<|G Z K<|o_callL 0 Z Z Z EntC.out K (.cons (.os _ _ (by simp) hc) .nil) (rvalid_spec (outR a b way fr to (edgesM a b) i) (by omega) false) ?_
   refine o_not Z K<|o_nil<|h_cond Z (fun c99 => ?_) (fun c99 => ?_)
   ·
    refine h_seq<|H<|S Z K<|S Z K<|o_nil<|h_ret ?_
    have hq : combR a b way fr to = ([], 130) := by unfold combR; rw [← hie]; rw [if_neg (by simp_all)]
    exact retG [] (.cons (resT rfl) (.cons (resT rfl) .nil)) (List.nil_sublist _) ⟨_, rfl, by rw [hq]; rfl, rfl⟩
   ·
    refine h_skip<|h_seq<|H<|G Z K<|S Z K<|S Z K<|o_nil<|h_ret ?_
    have hq : combR a b way fr to = ((outR a b way fr to (edgesM a b) i), 0) := by unfold combR; rw [← hie]; rw [if_pos (by simp_all)]
    exact retF (.cons (resT rfl) (.cons (resT rfl) .nil)) (frz_tup2 (frz_os List.mem_cons_self (by simp) hc) (.refl _)) ⟨_, rfl, by rw [hq]; simp only [encR, List.isEmpty_eq_false_iff.2 hne]; rfl, rfl⟩

end Go.Proofs.YtnoicbajhlpndaaGreat
