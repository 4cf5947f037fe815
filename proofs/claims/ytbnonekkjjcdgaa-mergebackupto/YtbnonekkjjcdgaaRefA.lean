/- The walks of the reference implementations' small functions. -/
import Derived.Test.YtbnonekkjjcdgaaMergeD
namespace Go.Proofs.Ytbnonekkjjcdgaa
open Go Go.RowKit Go.Shelf Hp
set_option maxRecDepth 10000
set_option maxHeartbeats 1000000
set_option linter.unusedVariables false
set_option linter.unusedSimpArgs false
attribute [local irreducible] WP WPs FnX IterX YdX RetP PanP Ch Back Join
def pickM (c n : Int) : Int := if c < 0 then (-(c + 1)).tmod n else c.tmod n
theorem pickM_range {c n : Int} (hn : 0 < n) : 0 ≤ pickM c n ∧ pickM c n < n := by
  unfold pickM
  split
  · exact ⟨Int.tmod_nonneg _ (by omega), Int.tmod_lt_of_pos _ hn⟩
  · exact ⟨Int.tmod_nonneg _ (by omega), Int.tmod_lt_of_pos _ hn⟩
def bitM (s i : Int) : Bool := decide ((s / 2 ^ i.toNat).tmod 2 = 1)
def inR (n low high : Int) : Bool := decide (n ≥ low) && decide (n ≤ high)

theorem pick13_spec (c n : Int) (hc : in64 c) (hn : n ≠ 0) : Fn1 Try.prog 32 [I c, I n] (I (pickM c n)) := by
  refine fnE_intro (N := 13) Try.func32 rfl rfl rfl ?_
  intro X
  refine h_seq ?_
  refine h_region ?_
  refine o_assign rfl (by decide) ?_
  refine o_nil ?_
  refine h_seq ?_
  refine h_seq ?_
  refine h_region ?_
  refine o_move rfl (by decide) ?_
  refine o_cmp rfl rfl rfl (by decide) ?_
  refine o_nil ?_
  refine h_cond rfl (fun c2 => ?_) (fun c2 => ?_)
  ·
    refine h_region ?_
    refine o_move rfl (by decide) ?_
    refine o_add rfl rfl (by unfold in64 at *; (try dsimp only); simp_all <;> omega) (by decide) ?_
    refine o_neg rfl (by unfold in64 at *; (try dsimp only); simp_all <;> omega) (by decide) ?_
    refine o_assign rfl (by decide) ?_
    refine o_nil ?_
    refine h_seq ?_
    refine h_region ?_
    refine o_move rfl (by decide) ?_
    refine o_move rfl (by decide) ?_
    refine o_rem rfl rfl hn (by decide) ?_
    refine o_assign rfl (by decide) ?_
    refine o_nil ?_
    refine h_ret ?_
    exact ret1' rfl (I_eq (by unfold pickM; simp only [decide_eq_true_eq, decide_eq_false_iff_not] at *; first | rw [if_pos (by assumption)] | rw [if_neg (by assumption)]))
  ·
    refine h_skip ?_
    refine h_seq ?_
    refine h_region ?_
    refine o_move rfl (by decide) ?_
    refine o_move rfl (by decide) ?_
    refine o_rem rfl rfl hn (by decide) ?_
    refine o_assign rfl (by decide) ?_
    refine o_nil ?_
    refine h_ret ?_
    exact ret1' rfl (I_eq (by unfold pickM; simp only [decide_eq_true_eq, decide_eq_false_iff_not] at *; first | rw [if_pos (by assumption)] | rw [if_neg (by assumption)]))

theorem pick42_spec (c n : Int) (hc : in64 c) (hn : n ≠ 0) : Fn1 Try.prog 27 [I c, I n] (I (pickM c n)) := by
  refine fnE_intro (N := 13) Try.func27 rfl rfl rfl ?_
  intro X
  refine h_seq ?_
  refine h_region ?_
  refine o_assign rfl (by decide) ?_
  refine o_nil ?_
  refine h_seq ?_
  refine h_seq ?_
  refine h_region ?_
  refine o_move rfl (by decide) ?_
  refine o_cmp rfl rfl rfl (by decide) ?_
  refine o_nil ?_
  refine h_cond rfl (fun c4 => ?_) (fun c4 => ?_)
  ·
    refine h_region ?_
    refine o_move rfl (by decide) ?_
    refine o_add rfl rfl (by unfold in64 at *; (try dsimp only); simp_all <;> omega) (by decide) ?_
    refine o_neg rfl (by unfold in64 at *; (try dsimp only); simp_all <;> omega) (by decide) ?_
    refine o_assign rfl (by decide) ?_
    refine o_nil ?_
    refine h_seq ?_
    refine h_region ?_
    refine o_move rfl (by decide) ?_
    refine o_move rfl (by decide) ?_
    refine o_rem rfl rfl hn (by decide) ?_
    refine o_assign rfl (by decide) ?_
    refine o_nil ?_
    refine h_ret ?_
    exact ret1' rfl (I_eq (by unfold pickM; simp only [decide_eq_true_eq, decide_eq_false_iff_not] at *; first | rw [if_pos (by assumption)] | rw [if_neg (by assumption)]))
  ·
    refine h_skip ?_
    refine h_seq ?_
    refine h_region ?_
    refine o_move rfl (by decide) ?_
    refine o_move rfl (by decide) ?_
    refine o_rem rfl rfl hn (by decide) ?_
    refine o_assign rfl (by decide) ?_
    refine o_nil ?_
    refine h_ret ?_
    exact ret1' rfl (I_eq (by unfold pickM; simp only [decide_eq_true_eq, decide_eq_false_iff_not] at *; first | rw [if_pos (by assumption)] | rw [if_neg (by assumption)]))

theorem pickL_spec (c n : Int) (hc : in64 c) (hn : n ≠ 0) : Fn1 Try.prog 12 [I c, I n] (I (pickM c n)) := by
  refine fnE_intro (N := 13) Try.func12 rfl rfl rfl ?_
  intro X
  refine h_seq ?_
  refine h_region ?_
  refine o_assign rfl (by decide) ?_
  refine o_nil ?_
  refine h_seq ?_
  refine h_seq ?_
  refine h_region ?_
  refine o_move rfl (by decide) ?_
  refine o_cmp rfl rfl rfl (by decide) ?_
  refine o_nil ?_
  refine h_cond rfl (fun c6 => ?_) (fun c6 => ?_)
  ·
    refine h_region ?_
    refine o_move rfl (by decide) ?_
    refine o_add rfl rfl (by unfold in64 at *; (try dsimp only); simp_all <;> omega) (by decide) ?_
    refine o_neg rfl (by unfold in64 at *; (try dsimp only); simp_all <;> omega) (by decide) ?_
    refine o_assign rfl (by decide) ?_
    refine o_nil ?_
    refine h_seq ?_
    refine h_region ?_
    refine o_move rfl (by decide) ?_
    refine o_move rfl (by decide) ?_
    refine o_rem rfl rfl hn (by decide) ?_
    refine o_assign rfl (by decide) ?_
    refine o_nil ?_
    refine h_ret ?_
    exact ret1' rfl (I_eq (by unfold pickM; simp only [decide_eq_true_eq, decide_eq_false_iff_not] at *; first | rw [if_pos (by assumption)] | rw [if_neg (by assumption)]))
  ·
    refine h_skip ?_
    refine h_seq ?_
    refine h_region ?_
    refine o_move rfl (by decide) ?_
    refine o_move rfl (by decide) ?_
    refine o_rem rfl rfl hn (by decide) ?_
    refine o_assign rfl (by decide) ?_
    refine o_nil ?_
    refine h_ret ?_
    exact ret1' rfl (I_eq (by unfold pickM; simp only [decide_eq_true_eq, decide_eq_false_iff_not] at *; first | rw [if_pos (by assumption)] | rw [if_neg (by assumption)]))

theorem bit42_spec (s i : Int) (h0 : 0 ≤ i) (h1 : i ≤ 63) : Fn1 Try.prog 28 [I s, I i] (B (bitM s i)) := by
  refine fnE_intro (N := 10) Try.func28 rfl rfl rfl ?_
  intro X
  refine h_seq ?_
  refine h_region ?_
  refine o_assign rfl (by decide) ?_
  refine o_nil ?_
  refine h_seq ?_
  refine h_region ?_
  refine o_move rfl (by decide) ?_
  refine o_move rfl (by decide) ?_
  refine o_shr rfl rfl (by omega) (by omega) (by decide) ?_
  refine o_rem rfl rfl (by decide) (by decide) ?_
  refine o_cmp rfl rfl rfl (by decide) ?_
  refine o_assign rfl (by decide) ?_
  refine o_nil ?_
  refine h_ret ?_
  exact ret1' rfl rfl

theorem bitL_spec (s i : Int) (h0 : 0 ≤ i) (h1 : i ≤ 63) : Fn1 Try.prog 13 [I s, I i] (B (bitM s i)) := by
  refine fnE_intro (N := 10) Try.func13 rfl rfl rfl ?_
  intro X
  refine h_seq ?_
  refine h_region ?_
  refine o_assign rfl (by decide) ?_
  refine o_nil ?_
  refine h_seq ?_
  refine h_region ?_
  refine o_move rfl (by decide) ?_
  refine o_move rfl (by decide) ?_
  refine o_shr rfl rfl (by omega) (by omega) (by decide) ?_
  refine o_rem rfl rfl (by decide) (by decide) ?_
  refine o_cmp rfl rfl rfl (by decide) ?_
  refine o_assign rfl (by decide) ?_
  refine o_nil ?_
  refine h_ret ?_
  exact ret1' rfl rfl

theorem in42_spec (n low high : Int) : Fn1 Try.prog 59 [I n, I low, I high] (B (inR n low high)) := by
  refine fnE_intro (N := 15) Try.func59 rfl rfl rfl ?_
  intro X
  refine h_seq ?_
  refine h_region ?_
  refine o_assign rfl (by decide) ?_
  refine o_nil ?_
  refine h_seq ?_
  refine h_region ?_
  refine o_move rfl (by decide) ?_
  refine o_move rfl (by decide) ?_
  refine o_cmp rfl rfl rfl (by decide) ?_
  refine o_move rfl (by decide) ?_
  refine o_guard rfl rfl (by decide) (fun g10 => ?_) (fun g10 => ?_)
  ·
    have g10 : _ = true := g10
    refine o_move rfl (by decide) ?_
    refine o_guardy rfl rfl g10 (by decide) ?_
    refine o_move rfl (by decide) ?_
    refine o_guardy rfl rfl g10 (by decide) ?_
    refine o_cmp rfl rfl rfl (by decide) ?_
    refine o_pickt rfl g10 rfl (by decide) ?_
    refine o_assign rfl (by decide) ?_
    refine o_nil ?_
    refine h_ret ?_
    exact ret1' rfl (B_eq (by unfold inR; simp_all <;> (intros; omega)))
  ·
    have g10 : _ = false := g10
    refine o_guardn rfl rfl g10 (by decide) ?_
    refine o_guardn rfl rfl g10 (by decide) ?_
    refine o_pickf rfl g10 rfl (by decide) ?_
    refine o_assign rfl (by decide) ?_
    refine o_nil ?_
    refine h_ret ?_
    exact ret1' rfl (B_eq (by unfold inR; simp_all <;> (intros; omega)))

theorem rrange_spec (f t : Int) : Fn1 Try.prog 85 [.agg [I f, I t]] (B (rangeOk f t)) := by
  refine fnE_intro (N := 18) Try.func85 rfl rfl rfl ?_
  intro X
  refine h_seq ?_
  refine h_region ?_
  refine o_box rfl rfl (by decide) fun x12 => ?_
  refine o_assign rfl (by decide) ?_
  refine o_nil ?_
  refine h_seq ?_
  refine h_region ?_
  refine o_faddr rfl rfl (by decide) (by decide) ?_
  refine o_load 0 rfl rfl rfl rfl (by decide) ?_
  refine o_cmp rfl rfl rfl (by decide) ?_
  refine o_move rfl (by decide) ?_
  refine o_guard rfl rfl (by decide) (fun g14 => ?_) (fun g14 => ?_)
  ·
    have g14 : _ = true := g14
    refine o_faddr rfl rfl (by decide) (by decide) ?_
    refine o_guardy rfl rfl g14 (by decide) ?_
    refine o_load 0 rfl rfl rfl rfl (by decide) ?_
    refine o_guardy rfl rfl g14 (by decide) ?_
    refine o_faddr rfl rfl (by decide) (by decide) ?_
    refine o_guardy rfl rfl g14 (by decide) ?_
    refine o_load 0 rfl rfl rfl rfl (by decide) ?_
    refine o_guardy rfl rfl g14 (by decide) ?_
    refine o_cmp rfl rfl rfl (by decide) ?_
    refine o_pickt rfl g14 rfl (by decide) ?_
    refine o_move rfl (by decide) ?_
    refine o_guard rfl rfl (by decide) (fun g16 => ?_) (fun g16 => ?_)
    ·
      have g16 : _ = true := g16
      refine o_faddr rfl rfl (by decide) (by decide) ?_
      refine o_guardy rfl rfl g16 (by decide) ?_
      refine o_load 0 rfl rfl rfl rfl (by decide) ?_
      refine o_guardy rfl rfl g16 (by decide) ?_
      refine o_cmp rfl rfl rfl (by decide) ?_
      refine o_pickt rfl g16 rfl (by decide) ?_
      refine o_assign rfl (by decide) ?_
      refine o_nil ?_
      refine h_ret ?_
      refine ret1' rfl ?_
      (unfold rangeOk; (refine B_eq ?_; (try simp only [Bool.not_true, Bool.not_false, decide_eq_true_eq, decide_eq_false_iff_not] at *); (first | rfl | (rw [Bool.eq_iff_iff]; simp only [decide_eq_true_eq, Bool.false_eq_true, Bool.true_eq_false, Bool.and_eq_true, Bool.or_eq_true, Bool.not_eq_true', decide_eq_false_iff_not, false_iff, iff_false, true_iff, iff_true]; omega))))
    ·
      have g16 : _ = false := g16
      refine o_guardn rfl rfl g16 (by decide) ?_
      refine o_guardn rfl rfl g16 (by decide) ?_
      refine o_pickf rfl g16 rfl (by decide) ?_
      refine o_assign rfl (by decide) ?_
      refine o_nil ?_
      refine h_ret ?_
      refine ret1' rfl ?_
      (unfold rangeOk; (refine B_eq ?_; (try simp only [Bool.not_true, Bool.not_false, decide_eq_true_eq, decide_eq_false_iff_not] at *); (first | rfl | (rw [Bool.eq_iff_iff]; simp only [decide_eq_true_eq, Bool.false_eq_true, Bool.true_eq_false, Bool.and_eq_true, Bool.or_eq_true, Bool.not_eq_true', decide_eq_false_iff_not, false_iff, iff_false, true_iff, iff_true]; omega))))
  ·
    have g14 : _ = false := g14
    refine o_guardn rfl rfl g14 (by decide) ?_
    refine o_guardn rfl rfl g14 (by decide) ?_
    refine o_guardn rfl rfl g14 (by decide) ?_
    refine o_guardn rfl rfl g14 (by decide) ?_
    refine o_pickf rfl g14 rfl (by decide) ?_
    refine o_move rfl (by decide) ?_
    refine o_guardn rfl rfl rfl (by decide) ?_
    refine o_guardn rfl rfl rfl (by decide) ?_
    refine o_guardn rfl rfl rfl (by decide) ?_
    refine o_pickf rfl rfl rfl (by decide) ?_
    refine o_assign rfl (by decide) ?_
    refine o_nil ?_
    refine h_ret ?_
    refine ret1' rfl ?_
    (unfold rangeOk; (refine B_eq ?_; (try simp only [Bool.not_true, Bool.not_false, decide_eq_true_eq, decide_eq_false_iff_not] at *); (first | rfl | (rw [Bool.eq_iff_iff]; simp only [decide_eq_true_eq, Bool.false_eq_true, Bool.true_eq_false, Bool.and_eq_true, Bool.or_eq_true, Bool.not_eq_true', decide_eq_false_iff_not, false_iff, iff_false, true_iff, iff_true]; omega))))

theorem rcarrier_spec (c : Int) : Fn1 Try.prog 76 [I c] (B (carOk c)) := by
  refine fnE_intro (N := 9) Try.func76 rfl rfl rfl ?_
  intro X
  refine h_seq ?_
  refine h_region ?_
  refine o_assign rfl (by decide) ?_
  refine o_nil ?_
  refine h_seq ?_
  refine h_region ?_
  refine o_move rfl (by decide) ?_
  refine o_cmp rfl rfl rfl (by decide) ?_
  refine o_move rfl (by decide) ?_
  refine o_guard rfl rfl (by decide) (fun g19 => ?_) (fun g19 => ?_)
  ·
    have g19 : _ = true := g19
    refine o_move rfl (by decide) ?_
    refine o_guardy rfl rfl g19 (by decide) ?_
    refine o_cmp rfl rfl rfl (by decide) ?_
    refine o_pickt rfl g19 rfl (by decide) ?_
    refine o_assign rfl (by decide) ?_
    refine o_nil ?_
    refine h_ret ?_
    refine ret1' rfl ?_
    (unfold carOk; (refine B_eq ?_; (try simp only [Bool.not_true, Bool.not_false, decide_eq_true_eq, decide_eq_false_iff_not] at *); (first | rfl | (rw [Bool.eq_iff_iff]; simp only [decide_eq_true_eq, Bool.false_eq_true, Bool.true_eq_false, Bool.and_eq_true, Bool.or_eq_true, Bool.not_eq_true', decide_eq_false_iff_not, false_iff, iff_false, true_iff, iff_true]; omega))))
  ·
    have g19 : _ = false := g19
    refine o_guardn rfl rfl g19 (by decide) ?_
    refine o_pickf rfl g19 rfl (by decide) ?_
    refine o_assign rfl (by decide) ?_
    refine o_nil ?_
    refine h_ret ?_
    refine ret1' rfl ?_
    (unfold carOk; (refine B_eq ?_; (try simp only [Bool.not_true, Bool.not_false, decide_eq_true_eq, decide_eq_false_iff_not] at *); (first | rfl | (rw [Bool.eq_iff_iff]; simp only [decide_eq_true_eq, Bool.false_eq_true, Bool.true_eq_false, Bool.and_eq_true, Bool.or_eq_true, Bool.not_eq_true', decide_eq_false_iff_not, false_iff, iff_false, true_iff, iff_true]; omega))))

theorem one_spec (f t c : Int) : Fn1 Try.prog 86 [.agg [I f, I t], I c] (V ([(⟨f, t, c⟩ : Blk)].map encB) true) := by
  refine fnE_intro (N := 9) Try.func86 rfl rfl rfl ?_
  intro X
  refine h_seq ?_
  refine h_region ?_
  refine o_box rfl rfl (by decide) fun x21 => ?_
  refine o_assign rfl (by decide) ?_
  refine o_nil ?_
  refine h_seq ?_
  refine h_region ?_
  refine o_load 0 rfl rfl rfl rfl (by decide) ?_
  refine o_move rfl (by decide) ?_
  refine o_build rfl rfl (by decide) ?_
  refine o_buildSlicep rfl (by rfl) (by rfl) (by rfl) (by rfl) (by decide) ?_
  refine o_assign rfl (by decide) ?_
  refine o_nil ?_
  refine h_ret ?_
  exact ret1' rfl rfl

theorem eltBk {l : List Blk} {n : Int} (h : n.toNat < l.length) : (l.map encB)[n.toNat]? = some (encB (l.getD n.toNat dB)) := by simp [h]
def hitB (l : List Blk) (n : Int) (k : Nat) : Bool := decide ((l.getD k dB).f ≤ n) && decide (n < (l.getD k dB).t)
def holderR (l : List Blk) (n : Int) : Int := match fst? (hitB l n) l.length 0 with
  | some k => (l.getD k dB).c
  | none => -1
theorem holder_some {l : List Blk} {n : Int} {k : Nat} (hk : k < l.length) (h : hitB l n k = true) (hb : ∀ j, j < k → hitB l n j = false) : holderR l n = (l.getD k dB).c := by
  unfold holderR
  rw [fst_some l.length 0 k (Nat.zero_le _) (by omega) h (fun j _ hj => hb j hj)]
theorem holder_none {l : List Blk} {n : Int} (hb : ∀ j, j < l.length → hitB l n j = false) : holderR l n = -1 := by
  unfold holderR
  rw [fst_none l.length 0 (fun j _ hj => hb j (by omega))]

theorem holder_spec (l : List Blk) (hlen : l.length ≤ 1000000000) (f : Bool) (n : Int) : Fn1 Try.prog 88 [V (l.map encB) f, I n] (I (holderR l n)) := by
  refine fnE_intro (N := 35) Try.func88 rfl rfl rfl ?_
  intro X
  refine h_seq ?_
  refine h_region ?_
  refine o_assign rfl (by decide) ?_
  refine o_nil ?_
  refine h_seq ?_
  refine h_seq ?_
  refine h_region ?_
  refine o_assign rfl (by decide) ?_
  refine o_nil ?_
  refine h_block ?_
  refine h_famS (ι := {k : Nat // k ≤ (l).length ∧ ∀ j, j < k → hitB l n j = false}) (fun i => [(0, V (l.map encB) f), (1, I n), (5, I (i.1 : Nat))]) (fun i => []) (fun i => (l).length - i.1) ⟨0, Nat.zero_le _, fun j hj => absurd hj (Nat.not_lt_zero j)⟩ (.refl _) (subT.cons rfl (subT.cons rfl (subT.cons rfl subT.nil))) ?_
  rintro ⟨k, hk, hok⟩
  dsimp only
  by_cases hlt : k < (l).length
  ·
    refine h_seq ?_
    refine h_seq ?_
    refine h_region ?_
    refine o_move rfl (by decide) ?_
    refine o_move rfl (by decide) ?_
    refine o_len rfl (by decide) ?_
    refine o_cmp rfl rfl rfl (by decide) ?_
    refine o_nil ?_
    refine h_condt rfl (by simp; omega) ?_
    refine h_skip ?_
    refine h_seq ?_
    refine h_block ?_
    refine h_seq ?_
    refine h_region ?_
    refine o_move rfl (by decide) ?_
    refine o_move rfl (by decide) ?_
    refine o_idxv rfl rfl (by omega) (eltBk (by simpa using hlt)) rfl (by decide) ?_
    refine o_faddrv rfl rfl (by decide) rfl (by decide) ?_
    refine o_faddrv rfl rfl (by decide) rfl (by decide) ?_
    refine o_loadv rfl rfl (by decide) ?_
    refine o_move rfl (by decide) ?_
    refine o_cmp rfl rfl rfl (by decide) ?_
    refine o_move rfl (by decide) ?_
    refine o_guard rfl rfl (by decide) (fun g24 => ?_) (fun g24 => ?_)
    ·
      have g24 : _ = true := g24
      refine o_move rfl (by decide) ?_
      refine o_guardy rfl rfl g24 (by decide) ?_
      refine o_move rfl (by decide) ?_
      refine o_guardy rfl rfl g24 (by decide) ?_
      refine o_move rfl (by decide) ?_
      refine o_guardy rfl rfl g24 (by decide) ?_
      refine o_idxv rfl rfl (by omega) (eltBk (by simpa using hlt)) rfl (by decide) ?_
      refine o_guardy rfl rfl g24 (by decide) ?_
      refine o_faddrv rfl rfl (by decide) rfl (by decide) ?_
      refine o_guardy rfl rfl g24 (by decide) ?_
      refine o_faddrv rfl rfl (by decide) rfl (by decide) ?_
      refine o_guardy rfl rfl g24 (by decide) ?_
      refine o_loadv rfl rfl (by decide) ?_
      refine o_guardy rfl rfl g24 (by decide) ?_
      refine o_cmp rfl rfl rfl (by decide) ?_
      refine o_pickt rfl g24 rfl (by decide) ?_
      refine o_nil ?_
      refine h_cond rfl (fun c26 => ?_) (fun c26 => ?_)
      ·
        refine h_seq ?_
        refine h_region ?_
        refine o_move rfl (by decide) ?_
        refine o_move rfl (by decide) ?_
        refine o_idxv rfl rfl (by omega) (eltBk (by simpa using hlt)) rfl (by decide) ?_
        refine o_faddrv rfl rfl (by decide) rfl (by decide) ?_
        refine o_loadv rfl rfl (by decide) ?_
        refine o_assign rfl (by decide) ?_
        refine o_nil ?_
        refine h_ret ?_
        have hh : hitB l n k = true := by simp only [hitB, Bool.and_eq_true, decide_eq_true_eq]; simp_all
        exact ret1' rfl (I_eq (holder_some hlt hh hok).symm)
      ·
        refine h_skip ?_
        refine h_region ?_
        refine o_move rfl (by decide) ?_
        refine o_add rfl rfl (by unfold in64; (try dsimp only); omega) (by decide) ?_
        refine o_assign rfl (by decide) ?_
        refine o_nil ?_
        have hbad : hitB l n k = false := by simp only [hitB, Bool.and_eq_false_iff, decide_eq_false_iff_not]; simp_all
        refine back rfl ⟨k + 1, hlt, fun j hj => (by rcases Nat.lt_succ_iff_lt_or_eq.1 hj with h1 | h1; exact hok j h1; subst h1; exact hbad)⟩ (by dsimp only; omega) (.refl _) (subT.cons rfl (subT.cons rfl (subT.cons rfl subT.nil)))
    ·
      have g24 : _ = false := g24
      refine o_guardn rfl rfl g24 (by decide) ?_
      refine o_guardn rfl rfl g24 (by decide) ?_
      refine o_guardn rfl rfl g24 (by decide) ?_
      refine o_guardn rfl rfl g24 (by decide) ?_
      refine o_guardn rfl rfl g24 (by decide) ?_
      refine o_guardn rfl rfl g24 (by decide) ?_
      refine o_guardn rfl rfl g24 (by decide) ?_
      refine o_pickf rfl g24 rfl (by decide) ?_
      refine o_nil ?_
      refine h_condf rfl rfl ?_
      refine h_skip ?_
      refine h_region ?_
      refine o_move rfl (by decide) ?_
      refine o_add rfl rfl (by unfold in64; (try dsimp only); omega) (by decide) ?_
      refine o_assign rfl (by decide) ?_
      refine o_nil ?_
      have hbad : hitB l n k = false := by simp only [hitB, Bool.and_eq_false_iff, decide_eq_false_iff_not]; simp_all
      refine back rfl ⟨k + 1, hlt, fun j hj => (by rcases Nat.lt_succ_iff_lt_or_eq.1 hj with h1 | h1; exact hok j h1; subst h1; exact hbad)⟩ (by dsimp only; omega) (.refl _) (subT.cons rfl (subT.cons rfl (subT.cons rfl subT.nil)))
  ·
    obtain rfl : k = (l).length := by omega
    refine h_seq ?_
    refine h_seq ?_
    refine h_region ?_
    refine o_move rfl (by decide) ?_
    refine o_move rfl (by decide) ?_
    refine o_len rfl (by decide) ?_
    refine o_cmp rfl rfl rfl (by decide) ?_
    refine o_nil ?_
    refine h_condf rfl (by simp <;> omega) ?_
    refine h_exit ?_
    refine h_seq ?_
    refine h_region ?_
    refine o_assign rfl (by decide) ?_
    refine o_nil ?_
    refine h_ret ?_
    exact ret1' rfl (I_eq (holder_none hok).symm)

def rbad (l : List Blk) (k : Nat) : Bool := !rangeOk (l.getD k dB).f (l.getD k dB).t || !carOk (l.getD k dB).c ||
  (decide (0 < k) && (decide ((l.getD (k - 1) dB).t > (l.getD k dB).f) || (decide ((l.getD (k - 1) dB).t = (l.getD k dB).f) && decide ((l.getD (k - 1) dB).c = (l.getD k dB).c))))
def rvalid (l : List Blk) : Bool := decide (l.length ≤ 40) && !(List.range l.length).any (rbad l)
theorem prevK {k : Nat} (h : 0 < k) : ((k : Int) - 1).toNat = k - 1 := by omega

theorem rvalid_spec (l : List Blk) (hlen : l.length ≤ 1000000000) (f : Bool) : Fn1 Try.prog 75 [V (l.map encB) f] (B (rvalid l)) := by
  refine fnE_intro (N := 77) Try.func75 rfl rfl rfl ?_
  intro X
  refine h_seq ?_
  refine h_region ?_
  refine o_assign rfl (by decide) ?_
  refine o_nil ?_
  refine h_seq ?_
  refine h_seq ?_
  refine h_region ?_
  refine o_move rfl (by decide) ?_
  refine o_len rfl (by decide) ?_
  refine o_cmp rfl rfl rfl (by decide) ?_
  refine o_nil ?_
  refine h_cond rfl (fun c29 => ?_) (fun c29 => ?_)
  ·
    refine h_seq ?_
    refine h_region ?_
    refine o_assign rfl (by decide) ?_
    refine o_nil ?_
    refine h_ret ?_
    refine ret1' rfl (B_eq ?_)
    unfold rvalid; rw [decide_eq_false (by have := c29; simp at this; omega)]; rfl
  ·
    refine h_skip ?_
    refine h_seq ?_
    refine h_seq ?_
    refine h_region ?_
    refine o_assign rfl (by decide) ?_
    refine o_nil ?_
    refine h_block ?_
    have h40 := c29
    refine h_famS (ι := {k : Nat // k ≤ (l).length ∧ ∀ j, j < k → rbad l j = false}) (fun i => [(0, V (l.map encB) f), (3, I (i.1 : Nat))]) (fun i => []) (fun i => (l).length - i.1) ⟨0, Nat.zero_le _, fun j hj => absurd hj (Nat.not_lt_zero j)⟩ (.refl _) (subT.cons rfl (subT.cons rfl subT.nil)) ?_
    rintro ⟨k, hk, hok⟩
    dsimp only
    by_cases hlt : k < (l).length
    ·
      refine h_seq ?_
      refine h_seq ?_
      refine h_region ?_
      refine o_move rfl (by decide) ?_
      refine o_move rfl (by decide) ?_
      refine o_len rfl (by decide) ?_
      refine o_cmp rfl rfl rfl (by decide) ?_
      refine o_nil ?_
      refine h_condt rfl (by simp; omega) ?_
      refine h_skip ?_
      refine h_seq ?_
      refine h_block ?_
      refine h_seq ?_
      refine h_seq ?_
      refine h_region ?_
      refine o_move rfl (by decide) ?_
      refine o_move rfl (by decide) ?_
      refine o_idxv rfl rfl (by first | omega | (simp_all; omega)) (eltBk (by omega)) rfl (by decide) ?_
      refine o_faddrv rfl rfl (by decide) rfl (by decide) ?_
      refine o_loadv rfl rfl (by decide) ?_
      refine o_call1 rfl rfl EntC.out (by decide) (rrange_spec _ _) ?_
      refine o_not rfl (by decide) ?_
      refine o_move rfl (by decide) ?_
      refine o_guard rfl rfl (by decide) (fun g32 => ?_) (fun g32 => ?_)
      ·
        have g32 : _ = false := g32
        refine o_move rfl (by decide) ?_
        refine o_guardy rfl rfl (by rw [(not_of g32)]; rfl) (by decide) ?_
        refine o_move rfl (by decide) ?_
        refine o_guardy rfl rfl (by rw [(not_of g32)]; rfl) (by decide) ?_
        refine o_idxv rfl rfl (by first | omega | (simp_all; omega)) (eltBk (by omega)) rfl (by decide) ?_
        refine o_guardy rfl rfl (by rw [(not_of g32)]; rfl) (by decide) ?_
        refine o_faddrv rfl rfl (by decide) rfl (by decide) ?_
        refine o_guardy rfl rfl (by rw [(not_of g32)]; rfl) (by decide) ?_
        refine o_loadv rfl rfl (by decide) ?_
        refine o_guardy rfl rfl (by rw [(not_of g32)]; rfl) (by decide) ?_
        refine o_call1 rfl rfl EntC.out (by decide) (rcarrier_spec _) ?_
        refine o_guardy rfl rfl (by rw [(not_of g32)]; rfl) (by decide) ?_
        refine o_not rfl (by decide) ?_
        refine o_pickf rfl (by rw [(not_of g32)]; rfl) rfl (by decide) ?_
        refine o_nil ?_
        refine h_cond rfl (fun c34 => ?_) (fun c34 => ?_)
        ·
          refine h_seq ?_
          refine h_region ?_
          refine o_assign rfl (by decide) ?_
          refine o_nil ?_
          refine h_ret ?_
          refine ret1' rfl (B_eq ?_)
          have hb : rbad l k = true := by
            simp only [rbad]
            rcases Nat.eq_zero_or_pos k with hk0 | hk0
            · subst hk0; simp_all
            · have hp := prevK hk0; simp_all <;> (try omega)
          have ha : (List.range l.length).any (rbad l) = true := List.any_eq_true.2 ⟨k, List.mem_range.2 hlt, hb⟩
          unfold rvalid; rw [ha]; simp
        ·
          refine h_skip ?_
          refine h_seq ?_
          refine h_draw _ (List.nil_sublist _) [(0, .flo), (1, .flo), (2, .flo), (3, .flo), (4, .flo), (5, .flo), (6, .flo), (7, .flo), (8, .flo), (9, .val), (10, .flo), (11, .flo), (12, .flo), (13, .flo), (14, .flo), (15, .val), (16, .flo), (17, .flo), (18, .flo), (19, .flo), (20, .flo), (21, .flo), (22, .flo), (23, .flo), (24, .val), (25, .flo), (26, .flo), (27, .flo), (28, .flo), (29, .flo), (30, .val), (31, .flo), (32, .flo), (33, .flo), (34, .flo), (35, .flo), (36, .flo), (37, .flo), (38, .val), (39, .flo), (40, .flo), (41, .flo), (42, .flo), (43, .val), (44, .flo), (45, .flo), (46, .flo), (47, .flo)] mixed (by kernel_rfl) ?_
          refine c_flo rfl rfl (fun Xq rq Qq dq kq => o_move rfl (by decide) kq) ?_
          refine c_flo rfl rfl (fun Xq rq Qq dq kq => o_cmp rfl rfl rfl (by decide) kq) ?_
          refine c_flo rfl rfl (fun Xq rq Qq dq kq => o_move rfl (by decide) kq) ?_
          refine c_split (t := 31) rfl (fun g36 => ?_) (fun g36 => ?_)
          ·
            have g36 : _ = true := g36
            refine c_flo rfl rfl (fun Xq rq Qq dq kq => o_guardy rfl rfl g36 (by decide) (o_move rfl (by decide) kq)) ?_
            refine c_flo rfl rfl (fun Xq rq Qq dq kq => o_guardy rfl rfl g36 (by decide) (o_move rfl (by decide) kq)) ?_
            refine c_flo rfl rfl (fun Xq rq Qq dq kq => o_guardy rfl rfl g36 (by decide) (o_sub rfl rfl (by unfold in64; (try dsimp only); omega) (by decide) kq)) ?_
            refine c_flo rfl rfl (fun Xq rq Qq dq kq => o_guardy rfl rfl g36 (by decide) (o_idxv rfl rfl (by first | omega | (simp_all; omega)) (eltBk (by omega)) rfl (by decide) kq)) ?_
            refine c_flo rfl rfl (fun Xq rq Qq dq kq => o_guardy rfl rfl g36 (by decide) (o_faddrv rfl rfl (by decide) rfl (by decide) kq)) ?_
            refine c_flo rfl rfl (fun Xq rq Qq dq kq => o_guardy rfl rfl g36 (by decide) (o_faddrv rfl rfl (by decide) rfl (by decide) kq)) ?_
            refine c_val rfl rfl (fun Xq rq Qq dq kq => o_guardy rfl rfl g36 (by decide) (o_loadv rfl rfl (by decide) kq)) ?_
            refine c_flo rfl rfl (fun Xq rq Qq dq kq => o_guardy rfl rfl g36 (by decide) (o_move rfl (by decide) kq)) ?_
            refine c_flo rfl rfl (fun Xq rq Qq dq kq => o_guardy rfl rfl g36 (by decide) (o_move rfl (by decide) kq)) ?_
            refine c_flo rfl rfl (fun Xq rq Qq dq kq => o_guardy rfl rfl g36 (by decide) (o_idxv rfl rfl (by first | omega | (simp_all; omega)) (eltBk (by omega)) rfl (by decide) kq)) ?_
            refine c_flo rfl rfl (fun Xq rq Qq dq kq => o_guardy rfl rfl g36 (by decide) (o_faddrv rfl rfl (by decide) rfl (by decide) kq)) ?_
            refine c_flo rfl rfl (fun Xq rq Qq dq kq => o_guardy rfl rfl g36 (by decide) (o_faddrv rfl rfl (by decide) rfl (by decide) kq)) ?_
            refine c_val rfl rfl (fun Xq rq Qq dq kq => o_guardy rfl rfl g36 (by decide) (o_loadv rfl rfl (by decide) kq)) ?_
            refine c_flo rfl rfl (fun Xq rq Qq dq kq => o_guardy rfl rfl g36 (by decide) (o_cmp rfl rfl rfl (by decide) kq)) ?_
            refine c_flo rfl rfl (fun Xq rq Qq dq kq => o_guardy rfl rfl g36 (by decide) (o_move rfl (by decide) kq)) ?_
            refine c_split (t := 46) rfl (fun g38 => ?_) (fun g38 => ?_)
            ·
              have g38 : _ = true := g38
              refine c_flo rfl rfl (fun Xq rq Qq dq kq => o_guardn rfl rfl g38 (by decide) kq) ?_
              refine c_flo rfl rfl (fun Xq rq Qq dq kq => o_guardn rfl rfl g38 (by decide) kq) ?_
              refine c_flo rfl rfl (fun Xq rq Qq dq kq => o_guardn rfl rfl g38 (by decide) kq) ?_
              refine c_flo rfl rfl (fun Xq rq Qq dq kq => o_guardn rfl rfl g38 (by decide) kq) ?_
              refine c_flo rfl rfl (fun Xq rq Qq dq kq => o_guardn rfl rfl g38 (by decide) kq) ?_
              refine c_flo rfl rfl (fun Xq rq Qq dq kq => o_guardn rfl rfl g38 (by decide) kq) ?_
              refine c_val rfl rfl (fun Xq rq Qq dq kq => o_guardn rfl rfl g38 (by decide) kq) ?_
              refine c_flo rfl rfl (fun Xq rq Qq dq kq => o_guardn rfl rfl g38 (by decide) kq) ?_
              refine c_flo rfl rfl (fun Xq rq Qq dq kq => o_guardn rfl rfl g38 (by decide) kq) ?_
              refine c_flo rfl rfl (fun Xq rq Qq dq kq => o_guardn rfl rfl g38 (by decide) kq) ?_
              refine c_flo rfl rfl (fun Xq rq Qq dq kq => o_guardn rfl rfl g38 (by decide) kq) ?_
              refine c_flo rfl rfl (fun Xq rq Qq dq kq => o_guardn rfl rfl g38 (by decide) kq) ?_
              refine c_val rfl rfl (fun Xq rq Qq dq kq => o_guardn rfl rfl g38 (by decide) kq) ?_
              refine c_flo rfl rfl (fun Xq rq Qq dq kq => o_guardn rfl rfl g38 (by decide) kq) ?_
              refine c_flo rfl rfl (fun Xq rq Qq dq kq => o_guardn rfl rfl g38 (by decide) kq) ?_
              refine c_flo rfl rfl (fun Xq rq Qq dq kq => o_guardx rfl rfl (by decide) kq) ?_
              refine c_flo rfl rfl (fun Xq rq Qq dq kq => o_guardx rfl rfl (by decide) kq) ?_
              refine c_flo rfl rfl (fun Xq rq Qq dq kq => o_guardx rfl rfl (by decide) kq) ?_
              refine c_flo rfl rfl (fun Xq rq Qq dq kq => o_guardx rfl rfl (by decide) kq) ?_
              refine c_flo rfl rfl (fun Xq rq Qq dq kq => o_guardx rfl rfl (by decide) kq) ?_
              refine c_val rfl rfl (fun Xq rq Qq dq kq => o_guardx rfl rfl (by decide) kq) ?_
              refine c_flo rfl rfl (fun Xq rq Qq dq kq => o_guardx rfl rfl (by decide) kq) ?_
              refine c_flo rfl rfl (fun Xq rq Qq dq kq => o_guardx rfl rfl (by decide) kq) ?_
              refine c_flo rfl rfl (fun Xq rq Qq dq kq => o_guardx rfl rfl (by decide) kq) ?_
              refine c_flo rfl rfl (fun Xq rq Qq dq kq => o_guardx rfl rfl (by decide) kq) ?_
              refine c_val rfl rfl (fun Xq rq Qq dq kq => o_guardx rfl rfl (by decide) kq) ?_
              refine c_flo rfl rfl (fun Xq rq Qq dq kq => o_guardx rfl rfl (by decide) kq) ?_
              refine c_flo rfl rfl (fun Xq rq Qq dq kq => o_guardn rfl rfl g38 (by decide) kq) ?_
              refine c_flo rfl rfl (fun Xq rq Qq dq kq => o_guardy rfl rfl g36 (by decide) (o_pickt rfl g38 rfl (by decide) kq)) ?_
              refine c_flo rfl rfl (fun Xq rq Qq dq kq => o_pickt rfl g36 rfl (by decide) kq) ?_
              refine c_nil ?_
              refine h_condt rfl rfl ?_
              refine h_seq ?_
              refine h_region ?_
              refine o_assign rfl (by decide) ?_
              refine o_nil ?_
              refine h_ret ?_
              refine ret1' rfl (B_eq ?_)
              have hb : rbad l k = true := by
                simp only [rbad]
                rcases Nat.eq_zero_or_pos k with hk0 | hk0
                · subst hk0; simp_all
                · have hp := prevK hk0; simp_all <;> (try omega)
              have ha : (List.range l.length).any (rbad l) = true := List.any_eq_true.2 ⟨k, List.mem_range.2 hlt, hb⟩
              unfold rvalid; rw [ha]; simp
            ·
              have g38 : _ = false := g38
              refine c_flo rfl rfl (fun Xq rq Qq dq kq => o_guardy rfl rfl g38 (by decide) (o_move rfl (by decide) kq)) ?_
              refine c_flo rfl rfl (fun Xq rq Qq dq kq => o_guardy rfl rfl g38 (by decide) (o_move rfl (by decide) kq)) ?_
              refine c_flo rfl rfl (fun Xq rq Qq dq kq => o_guardy rfl rfl g38 (by decide) (o_sub rfl rfl (by unfold in64; (try dsimp only); omega) (by decide) kq)) ?_
              refine c_flo rfl rfl (fun Xq rq Qq dq kq => o_guardy rfl rfl g38 (by decide) (o_idxv rfl rfl (by first | omega | (simp_all; omega)) (eltBk (by omega)) rfl (by decide) kq)) ?_
              refine c_flo rfl rfl (fun Xq rq Qq dq kq => o_guardy rfl rfl g38 (by decide) (o_faddrv rfl rfl (by decide) rfl (by decide) kq)) ?_
              refine c_flo rfl rfl (fun Xq rq Qq dq kq => o_guardy rfl rfl g38 (by decide) (o_faddrv rfl rfl (by decide) rfl (by decide) kq)) ?_
              refine c_val rfl rfl (fun Xq rq Qq dq kq => o_guardy rfl rfl g38 (by decide) (o_loadv rfl rfl (by decide) kq)) ?_
              refine c_flo rfl rfl (fun Xq rq Qq dq kq => o_guardy rfl rfl g38 (by decide) (o_move rfl (by decide) kq)) ?_
              refine c_flo rfl rfl (fun Xq rq Qq dq kq => o_guardy rfl rfl g38 (by decide) (o_move rfl (by decide) kq)) ?_
              refine c_flo rfl rfl (fun Xq rq Qq dq kq => o_guardy rfl rfl g38 (by decide) (o_idxv rfl rfl (by first | omega | (simp_all; omega)) (eltBk (by omega)) rfl (by decide) kq)) ?_
              refine c_flo rfl rfl (fun Xq rq Qq dq kq => o_guardy rfl rfl g38 (by decide) (o_faddrv rfl rfl (by decide) rfl (by decide) kq)) ?_
              refine c_flo rfl rfl (fun Xq rq Qq dq kq => o_guardy rfl rfl g38 (by decide) (o_faddrv rfl rfl (by decide) rfl (by decide) kq)) ?_
              refine c_val rfl rfl (fun Xq rq Qq dq kq => o_guardy rfl rfl g38 (by decide) (o_loadv rfl rfl (by decide) kq)) ?_
              refine c_flo rfl rfl (fun Xq rq Qq dq kq => o_guardy rfl rfl g38 (by decide) (o_cmp rfl rfl rfl (by decide) kq)) ?_
              refine c_flo rfl rfl (fun Xq rq Qq dq kq => o_guardy rfl rfl g38 (by decide) (o_move rfl (by decide) kq)) ?_
              refine c_split (t := 61) rfl (fun g40 => ?_) (fun g40 => ?_)
              ·
                have g40 : _ = true := g40
                refine c_flo rfl rfl (fun Xq rq Qq dq kq => o_guardy rfl rfl g40 (by decide) (o_move rfl (by decide) kq)) ?_
                refine c_flo rfl rfl (fun Xq rq Qq dq kq => o_guardy rfl rfl g40 (by decide) (o_move rfl (by decide) kq)) ?_
                refine c_flo rfl rfl (fun Xq rq Qq dq kq => o_guardy rfl rfl g40 (by decide) (o_sub rfl rfl (by unfold in64; (try dsimp only); omega) (by decide) kq)) ?_
                refine c_flo rfl rfl (fun Xq rq Qq dq kq => o_guardy rfl rfl g40 (by decide) (o_idxv rfl rfl (by first | omega | (simp_all; omega)) (eltBk (by omega)) rfl (by decide) kq)) ?_
                refine c_flo rfl rfl (fun Xq rq Qq dq kq => o_guardy rfl rfl g40 (by decide) (o_faddrv rfl rfl (by decide) rfl (by decide) kq)) ?_
                refine c_val rfl rfl (fun Xq rq Qq dq kq => o_guardy rfl rfl g40 (by decide) (o_loadv rfl rfl (by decide) kq)) ?_
                refine c_flo rfl rfl (fun Xq rq Qq dq kq => o_guardy rfl rfl g40 (by decide) (o_move rfl (by decide) kq)) ?_
                refine c_flo rfl rfl (fun Xq rq Qq dq kq => o_guardy rfl rfl g40 (by decide) (o_move rfl (by decide) kq)) ?_
                refine c_flo rfl rfl (fun Xq rq Qq dq kq => o_guardy rfl rfl g40 (by decide) (o_idxv rfl rfl (by first | omega | (simp_all; omega)) (eltBk (by omega)) rfl (by decide) kq)) ?_
                refine c_flo rfl rfl (fun Xq rq Qq dq kq => o_guardy rfl rfl g40 (by decide) (o_faddrv rfl rfl (by decide) rfl (by decide) kq)) ?_
                refine c_val rfl rfl (fun Xq rq Qq dq kq => o_guardy rfl rfl g40 (by decide) (o_loadv rfl rfl (by decide) kq)) ?_
                refine c_flo rfl rfl (fun Xq rq Qq dq kq => o_guardy rfl rfl g40 (by decide) (o_cmp rfl rfl rfl (by decide) kq)) ?_
                refine c_flo rfl rfl (fun Xq rq Qq dq kq => o_guardy rfl rfl g38 (by decide) (o_pickt rfl g40 rfl (by decide) kq)) ?_
                refine c_flo rfl rfl (fun Xq rq Qq dq kq => o_guardy rfl rfl g36 (by decide) (o_pickf rfl g38 rfl (by decide) kq)) ?_
                refine c_flo rfl rfl (fun Xq rq Qq dq kq => o_pickt rfl g36 rfl (by decide) kq) ?_
                refine c_nil ?_
                refine h_cond rfl (fun c42 => ?_) (fun c42 => ?_)
                ·
                  refine h_seq ?_
                  refine h_region ?_
                  refine o_assign rfl (by decide) ?_
                  refine o_nil ?_
                  refine h_ret ?_
                  refine ret1' rfl (B_eq ?_)
                  have hb : rbad l k = true := by
                    simp only [rbad]
                    rcases Nat.eq_zero_or_pos k with hk0 | hk0
                    · subst hk0; simp_all
                    · have hp := prevK hk0; simp_all <;> (try omega)
                  have ha : (List.range l.length).any (rbad l) = true := List.any_eq_true.2 ⟨k, List.mem_range.2 hlt, hb⟩
                  unfold rvalid; rw [ha]; simp
                ·
                  refine h_skip ?_
                  refine h_region ?_
                  refine o_move rfl (by decide) ?_
                  refine o_add rfl rfl (by unfold in64; (try dsimp only); omega) (by decide) ?_
                  refine o_assign rfl (by decide) ?_
                  refine o_nil ?_
                  have hbad : rbad l k = false := by
                    simp only [rbad]
                    rcases Nat.eq_zero_or_pos k with hk0 | hk0
                    · subst hk0; simp_all
                    · have hp := prevK hk0; simp_all <;> (try omega)
                  refine back rfl ⟨k + 1, hlt, fun j hj => (by rcases Nat.lt_succ_iff_lt_or_eq.1 hj with h1 | h1; exact hok j h1; subst h1; exact hbad)⟩ (by dsimp only; omega) (.refl _) (subT.cons rfl (subT.cons rfl subT.nil))
              ·
                have g40 : _ = false := g40
                refine c_flo rfl rfl (fun Xq rq Qq dq kq => o_guardn rfl rfl g40 (by decide) kq) ?_
                refine c_flo rfl rfl (fun Xq rq Qq dq kq => o_guardn rfl rfl g40 (by decide) kq) ?_
                refine c_flo rfl rfl (fun Xq rq Qq dq kq => o_guardn rfl rfl g40 (by decide) kq) ?_
                refine c_flo rfl rfl (fun Xq rq Qq dq kq => o_guardn rfl rfl g40 (by decide) kq) ?_
                refine c_flo rfl rfl (fun Xq rq Qq dq kq => o_guardn rfl rfl g40 (by decide) kq) ?_
                refine c_val rfl rfl (fun Xq rq Qq dq kq => o_guardn rfl rfl g40 (by decide) kq) ?_
                refine c_flo rfl rfl (fun Xq rq Qq dq kq => o_guardn rfl rfl g40 (by decide) kq) ?_
                refine c_flo rfl rfl (fun Xq rq Qq dq kq => o_guardn rfl rfl g40 (by decide) kq) ?_
                refine c_flo rfl rfl (fun Xq rq Qq dq kq => o_guardn rfl rfl g40 (by decide) kq) ?_
                refine c_flo rfl rfl (fun Xq rq Qq dq kq => o_guardn rfl rfl g40 (by decide) kq) ?_
                refine c_val rfl rfl (fun Xq rq Qq dq kq => o_guardn rfl rfl g40 (by decide) kq) ?_
                refine c_flo rfl rfl (fun Xq rq Qq dq kq => o_guardn rfl rfl g40 (by decide) kq) ?_
                refine c_flo rfl rfl (fun Xq rq Qq dq kq => o_guardy rfl rfl g38 (by decide) (o_pickf rfl g40 rfl (by decide) kq)) ?_
                refine c_flo rfl rfl (fun Xq rq Qq dq kq => o_guardy rfl rfl g36 (by decide) (o_pickf rfl g38 rfl (by decide) kq)) ?_
                refine c_flo rfl rfl (fun Xq rq Qq dq kq => o_pickt rfl g36 rfl (by decide) kq) ?_
                refine c_nil ?_
                refine h_condf rfl rfl ?_
                refine h_skip ?_
                refine h_region ?_
                refine o_move rfl (by decide) ?_
                refine o_add rfl rfl (by unfold in64; (try dsimp only); omega) (by decide) ?_
                refine o_assign rfl (by decide) ?_
                refine o_nil ?_
                have hbad : rbad l k = false := by
                  simp only [rbad]
                  rcases Nat.eq_zero_or_pos k with hk0 | hk0
                  · subst hk0; simp_all
                  · have hp := prevK hk0; simp_all <;> (try omega)
                refine back rfl ⟨k + 1, hlt, fun j hj => (by rcases Nat.lt_succ_iff_lt_or_eq.1 hj with h1 | h1; exact hok j h1; subst h1; exact hbad)⟩ (by dsimp only; omega) (.refl _) (subT.cons rfl (subT.cons rfl subT.nil))
          ·
            have g36 : _ = false := g36
            refine c_flo rfl rfl (fun Xq rq Qq dq kq => o_guardn rfl rfl g36 (by decide) kq) ?_
            refine c_flo rfl rfl (fun Xq rq Qq dq kq => o_guardn rfl rfl g36 (by decide) kq) ?_
            refine c_flo rfl rfl (fun Xq rq Qq dq kq => o_guardn rfl rfl g36 (by decide) kq) ?_
            refine c_flo rfl rfl (fun Xq rq Qq dq kq => o_guardn rfl rfl g36 (by decide) kq) ?_
            refine c_flo rfl rfl (fun Xq rq Qq dq kq => o_guardn rfl rfl g36 (by decide) kq) ?_
            refine c_flo rfl rfl (fun Xq rq Qq dq kq => o_guardn rfl rfl g36 (by decide) kq) ?_
            refine c_val rfl rfl (fun Xq rq Qq dq kq => o_guardn rfl rfl g36 (by decide) kq) ?_
            refine c_flo rfl rfl (fun Xq rq Qq dq kq => o_guardn rfl rfl g36 (by decide) kq) ?_
            refine c_flo rfl rfl (fun Xq rq Qq dq kq => o_guardn rfl rfl g36 (by decide) kq) ?_
            refine c_flo rfl rfl (fun Xq rq Qq dq kq => o_guardn rfl rfl g36 (by decide) kq) ?_
            refine c_flo rfl rfl (fun Xq rq Qq dq kq => o_guardn rfl rfl g36 (by decide) kq) ?_
            refine c_flo rfl rfl (fun Xq rq Qq dq kq => o_guardn rfl rfl g36 (by decide) kq) ?_
            refine c_val rfl rfl (fun Xq rq Qq dq kq => o_guardn rfl rfl g36 (by decide) kq) ?_
            refine c_flo rfl rfl (fun Xq rq Qq dq kq => o_guardn rfl rfl g36 (by decide) kq) ?_
            refine c_flo rfl rfl (fun Xq rq Qq dq kq => o_guardn rfl rfl g36 (by decide) kq) ?_
            refine c_flo rfl rfl (fun Xq rq Qq dq kq => o_guardx rfl rfl (by decide) kq) ?_
            refine c_flo rfl rfl (fun Xq rq Qq dq kq => o_guardx rfl rfl (by decide) kq) ?_
            refine c_flo rfl rfl (fun Xq rq Qq dq kq => o_guardx rfl rfl (by decide) kq) ?_
            refine c_flo rfl rfl (fun Xq rq Qq dq kq => o_guardx rfl rfl (by decide) kq) ?_
            refine c_flo rfl rfl (fun Xq rq Qq dq kq => o_guardx rfl rfl (by decide) kq) ?_
            refine c_flo rfl rfl (fun Xq rq Qq dq kq => o_guardx rfl rfl (by decide) kq) ?_
            refine c_val rfl rfl (fun Xq rq Qq dq kq => o_guardx rfl rfl (by decide) kq) ?_
            refine c_flo rfl rfl (fun Xq rq Qq dq kq => o_guardx rfl rfl (by decide) kq) ?_
            refine c_flo rfl rfl (fun Xq rq Qq dq kq => o_guardx rfl rfl (by decide) kq) ?_
            refine c_flo rfl rfl (fun Xq rq Qq dq kq => o_guardx rfl rfl (by decide) kq) ?_
            refine c_flo rfl rfl (fun Xq rq Qq dq kq => o_guardx rfl rfl (by decide) kq) ?_
            refine c_flo rfl rfl (fun Xq rq Qq dq kq => o_guardx rfl rfl (by decide) kq) ?_
            refine c_val rfl rfl (fun Xq rq Qq dq kq => o_guardx rfl rfl (by decide) kq) ?_
            refine c_flo rfl rfl (fun Xq rq Qq dq kq => o_guardx rfl rfl (by decide) kq) ?_
            refine c_flo rfl rfl (fun Xq rq Qq dq kq => o_guardx rfl rfl (by decide) kq) ?_
            refine c_flo rfl rfl (fun Xq rq Qq dq kq => o_guardx rfl rfl (by decide) kq) ?_
            refine c_flo rfl rfl (fun Xq rq Qq dq kq => o_guardx rfl rfl (by decide) kq) ?_
            refine c_flo rfl rfl (fun Xq rq Qq dq kq => o_guardx rfl rfl (by decide) kq) ?_
            refine c_flo rfl rfl (fun Xq rq Qq dq kq => o_guardx rfl rfl (by decide) kq) ?_
            refine c_flo rfl rfl (fun Xq rq Qq dq kq => o_guardx rfl rfl (by decide) kq) ?_
            refine c_val rfl rfl (fun Xq rq Qq dq kq => o_guardx rfl rfl (by decide) kq) ?_
            refine c_flo rfl rfl (fun Xq rq Qq dq kq => o_guardx rfl rfl (by decide) kq) ?_
            refine c_flo rfl rfl (fun Xq rq Qq dq kq => o_guardx rfl rfl (by decide) kq) ?_
            refine c_flo rfl rfl (fun Xq rq Qq dq kq => o_guardx rfl rfl (by decide) kq) ?_
            refine c_flo rfl rfl (fun Xq rq Qq dq kq => o_guardx rfl rfl (by decide) kq) ?_
            refine c_val rfl rfl (fun Xq rq Qq dq kq => o_guardx rfl rfl (by decide) kq) ?_
            refine c_flo rfl rfl (fun Xq rq Qq dq kq => o_guardx rfl rfl (by decide) kq) ?_
            refine c_flo rfl rfl (fun Xq rq Qq dq kq => o_guardx rfl rfl (by decide) kq) ?_
            refine c_flo rfl rfl (fun Xq rq Qq dq kq => o_guardn rfl rfl g36 (by decide) kq) ?_
            refine c_flo rfl rfl (fun Xq rq Qq dq kq => o_pickf rfl g36 rfl (by decide) kq) ?_
            refine c_nil ?_
            refine h_condf rfl rfl ?_
            refine h_skip ?_
            refine h_region ?_
            refine o_move rfl (by decide) ?_
            refine o_add rfl rfl (by unfold in64; (try dsimp only); omega) (by decide) ?_
            refine o_assign rfl (by decide) ?_
            refine o_nil ?_
            have hbad : rbad l k = false := by
              simp only [rbad]
              rcases Nat.eq_zero_or_pos k with hk0 | hk0
              · subst hk0; simp_all
              · have hp := prevK hk0; simp_all <;> (try omega)
            refine back rfl ⟨k + 1, hlt, fun j hj => (by rcases Nat.lt_succ_iff_lt_or_eq.1 hj with h1 | h1; exact hok j h1; subst h1; exact hbad)⟩ (by dsimp only; omega) (.refl _) (subT.cons rfl (subT.cons rfl subT.nil))
      ·
        have g32 : _ = true := g32
        refine o_guardn rfl rfl (by rw [(not_of g32)]; rfl) (by decide) ?_
        refine o_guardn rfl rfl (by rw [(not_of g32)]; rfl) (by decide) ?_
        refine o_guardn rfl rfl (by rw [(not_of g32)]; rfl) (by decide) ?_
        refine o_guardn rfl rfl (by rw [(not_of g32)]; rfl) (by decide) ?_
        refine o_guardn rfl rfl (by rw [(not_of g32)]; rfl) (by decide) ?_
        refine o_guardn rfl rfl (by rw [(not_of g32)]; rfl) (by decide) ?_
        refine o_pickt rfl (by rw [(not_of g32)]; rfl) rfl (by decide) ?_
        refine o_nil ?_
        refine h_condt rfl rfl ?_
        refine h_seq ?_
        refine h_region ?_
        refine o_assign rfl (by decide) ?_
        refine o_nil ?_
        refine h_ret ?_
        refine ret1' rfl (B_eq ?_)
        have hb : rbad l k = true := by
          simp only [rbad]
          rcases Nat.eq_zero_or_pos k with hk0 | hk0
          · subst hk0; simp_all
          · have hp := prevK hk0; simp_all <;> (try omega)
        have ha : (List.range l.length).any (rbad l) = true := List.any_eq_true.2 ⟨k, List.mem_range.2 hlt, hb⟩
        unfold rvalid; rw [ha]; simp
    ·
      obtain rfl : k = (l).length := by omega
      refine h_seq ?_
      refine h_seq ?_
      refine h_region ?_
      refine o_move rfl (by decide) ?_
      refine o_move rfl (by decide) ?_
      refine o_len rfl (by decide) ?_
      refine o_cmp rfl rfl rfl (by decide) ?_
      refine o_nil ?_
      refine h_condf rfl (by simp <;> omega) ?_
      refine h_exit ?_
      refine h_seq ?_
      refine h_region ?_
      refine o_assign rfl (by decide) ?_
      refine o_nil ?_
      refine h_ret ?_
      refine ret1' rfl (B_eq ?_)
      have ha : (List.range l.length).any (rbad l) = false := by rw [List.any_eq_false]; intro j hj; rw [hok j (List.mem_range.1 hj)]; simp
      unfold rvalid; rw [ha, decide_eq_true (by have := h40; simp at this; omega)]; rfl

end Go.Proofs.Ytbnonekkjjcdgaa
/- The walks of the reference's sorted edges. -/
namespace Go.Proofs.Ytbnonekkjjcdgaa
open Go Go.RowKit Go.Shelf Hp
set_option maxRecDepth 10000
set_option maxHeartbeats 1000000
set_option linter.unusedVariables false
set_option linter.unusedSimpArgs false
attribute [local irreducible] WP WPs FnX IterX YdX RetP PanP Ch Back Join
def stopP (l : List Int) (n : Int) (k : Nat) : Bool := !decide (l.getD k 0 < n)
def posP (l : List Int) (n : Int) : Nat := match fst? (stopP l n) l.length 0 with
  | some k => k
  | none => l.length
theorem posP_some {l : List Int} {n : Int} {k : Nat} (hk : k < l.length) (h : stopP l n k = true) (hb : ∀ j, j < k → stopP l n j = false) : posP l n = k := by
  unfold posP
  rw [fst_some l.length 0 k (Nat.zero_le _) (by omega) h (fun j _ hj => hb j hj)]
theorem posP_none {l : List Int} {n : Int} (hb : ∀ j, j < l.length → stopP l n j = false) : posP l n = l.length := by
  unfold posP
  rw [fst_none l.length 0 (fun j _ hj => hb j (by omega))]
def putM (l : List Int) (n : Int) : List Int := if posP l n < l.length ∧ l.getD (posP l n) 0 = n then l else l.take (posP l n) ++ n :: l.drop (posP l n)
theorem putM_len (l : List Int) (n : Int) : (putM l n).length ≤ l.length + 1 := by
  unfold putM; split
  · omega
  · simp; omega
theorem okB_In {l : List Int} {k : Nat} {n : Int} : ∀ z ∈ [encI n] ++ (l.map encI).drop k, okB 1 z = true := by
  intro z hz
  rcases List.mem_append.1 hz with h | h
  · simp at h; subst h; rfl
  · obtain ⟨x, _, rfl⟩ := List.mem_map.1 (List.mem_of_mem_drop h); rfl
theorem eltIn {l : List Int} {n : Int} (h : n.toNat < l.length) : (l.map encI)[n.toNat]? = some (encI (l.getD n.toNat 0)) := by simp [h]
theorem put_enc {l : List Int} {n : Int} {k : Nat} (hk : k ≤ l.length) : (l.map encI).take ((k : Nat) : Int).toNat ++ ([encI n] ++ (l.map encI).drop ((k : Nat) : Int).toNat) = (l.take k ++ n :: l.drop k).map encI := by
  simp

theorem put_spec (l : List Int) (hlen : l.length ≤ 10000000000) (f : Bool) (n : Int) : Fc Try.prog 95 [V (l.map encI) f, I n] [] (fun r h' => (∃ f', r = V ((putM l n).map encI) f') ∧ h' = []) := by
  refine fnE_intro (N := 44) Try.func95 rfl rfl rfl ?_
  intro X
  refine h_seq ?_
  refine h_region ?_
  refine o_assign rfl (by decide) ?_
  refine o_nil ?_
  refine h_seq ?_
  refine h_region ?_
  refine o_assign rfl (by decide) ?_
  refine o_nil ?_
  refine h_seq ?_
  refine h_block ?_
  refine h_famS (ι := {k : Nat // k ≤ (l).length ∧ ∀ j, j < k → stopP l n j = false}) (fun i => [(0, V (l.map encI) f), (1, I n), (5, I (i.1 : Nat))]) (fun i => []) (fun i => (l).length - i.1) ⟨0, Nat.zero_le _, fun j hj => absurd hj (Nat.not_lt_zero j)⟩ (.refl _) (subT.cons rfl (subT.cons rfl (subT.cons rfl subT.nil))) ?_
  rintro ⟨k, hk, hok⟩
  dsimp only
  by_cases hlt : k < (l).length
  ·
    refine h_seq ?_
    refine h_seq ?_
    refine h_region ?_
    refine o_move rfl (by decide) ?_
    refine o_move rfl (by decide) ?_
    refine o_len rfl (by decide) ?_
    refine o_cmp rfl rfl rfl (by decide) ?_
    refine o_move rfl (by decide) ?_
    refine o_guardy rfl rfl (by simp; omega) (by decide) ?_
    refine o_move rfl (by decide) ?_
    refine o_guardy rfl rfl (by simp; omega) (by decide) ?_
    refine o_move rfl (by decide) ?_
    refine o_guardy rfl rfl (by simp; omega) (by decide) ?_
    refine o_idxv rfl rfl (by omega) (eltIn (by first | omega | (simp; omega))) rfl (by decide) ?_
    refine o_guardy rfl rfl (by simp; omega) (by decide) ?_
    refine o_loadv rfl rfl (by decide) ?_
    refine o_guardy rfl rfl (by simp; omega) (by decide) ?_
    refine o_move rfl (by decide) ?_
    refine o_guardy rfl rfl (by simp; omega) (by decide) ?_
    refine o_cmp rfl rfl rfl (by decide) ?_
    refine o_pickt rfl (by simp; omega) rfl (by decide) ?_
    refine o_nil ?_
    refine h_cond rfl (fun c3 => ?_) (fun c3 => ?_)
    ·
      refine h_skip ?_
      refine h_block ?_
      refine h_region ?_
      refine o_move rfl (by decide) ?_
      refine o_add rfl rfl (by unfold in64; (try dsimp only); omega) (by decide) ?_
      refine o_assign rfl (by decide) ?_
      refine o_nil ?_
      have hbad : stopP l n k = false := by simp only [stopP]; simp_all
      refine back rfl ⟨k + 1, hlt, fun j hj => (by rcases Nat.lt_succ_iff_lt_or_eq.1 hj with h1 | h1; exact hok j h1; subst h1; exact hbad)⟩ (by dsimp only; omega) (.refl _) (subT.cons rfl (subT.cons rfl (subT.cons rfl subT.nil)))
    ·
      refine h_exit ?_
      refine h_seq ?_
      refine h_seq ?_
      refine h_region ?_
      refine o_move rfl (by decide) ?_
      refine o_move rfl (by decide) ?_
      refine o_len rfl (by decide) ?_
      refine o_cmp rfl rfl rfl (by decide) ?_
      refine o_move rfl (by decide) ?_
      refine o_guardy rfl rfl (by simp; omega) (by decide) ?_
      refine o_move rfl (by decide) ?_
      refine o_guardy rfl rfl (by simp; omega) (by decide) ?_
      refine o_move rfl (by decide) ?_
      refine o_guardy rfl rfl (by simp; omega) (by decide) ?_
      refine o_idxv rfl rfl (by omega) (eltIn (by first | omega | (simp; omega))) rfl (by decide) ?_
      refine o_guardy rfl rfl (by simp; omega) (by decide) ?_
      refine o_loadv rfl rfl (by decide) ?_
      refine o_guardy rfl rfl (by simp; omega) (by decide) ?_
      refine o_move rfl (by decide) ?_
      refine o_guardy rfl rfl (by simp; omega) (by decide) ?_
      refine o_cmp rfl rfl rfl (by decide) ?_
      refine o_pickt rfl (by simp; omega) rfl (by decide) ?_
      refine o_nil ?_
      refine h_cond rfl (fun c6 => ?_) (fun c6 => ?_)
      ·
        refine h_seq ?_
        refine h_region ?_
        refine o_move rfl (by decide) ?_
        refine o_assign rfl (by decide) ?_
        refine o_nil ?_
        refine h_ret ?_
        have hst : stopP l n k = true := by simp only [stopP]; simp_all
        have hp := posP_some hlt hst hok
        have hq : putM l n = l := by unfold putM; rw [hp, if_pos ⟨by omega, by simp_all⟩]
        exact ret1 rfl ⟨_, rfl, ⟨f, by rw [hq]⟩, rfl⟩
      ·
        refine h_skip ?_
        refine h_seq ?_
        refine h_draw _ (List.nil_sublist _) [(0, .flo), (1, .flo), (2, .flo), (3, .flo), (4, .flo), (5, .flo), (6, .flo), (7, .flo), (8, .flo), (9, .flo), (10, .flo), (11, .flo)] mixed (by kernel_rfl) ?_
        refine c_flo rfl rfl (fun Xq rq Qq dq kq => o_move rfl (by decide) kq) ?_
        refine c_flo rfl rfl (fun Xq rq Qq dq kq => o_move rfl (by decide) kq) ?_
        refine c_flo rfl rfl (fun Xq rq Qq dq kq => o_move rfl (by decide) kq) ?_
        refine c_flo rfl rfl (fun Xq rq Qq dq kq => o_front3 rfl rfl rfl (by omega) (by simp; try omega) (by simp [encI]) (by decide) kq) ?_
        refine c_flo rfl rfl (fun Xq rq Qq dq kq => o_move rfl (by decide) kq) ?_
        refine c_flo rfl rfl (fun Xq rq Qq dq kq => o_buildSlicep rfl (by rfl) (by rfl) (by rfl) (by rfl) (by decide) kq) ?_
        refine c_flo rfl rfl (fun Xq rq Qq dq kq => o_move rfl (by decide) kq) ?_
        refine c_flo rfl rfl (fun Xq rq Qq dq kq => o_move rfl (by decide) kq) ?_
        refine c_flo rfl rfl (fun Xq rq Qq dq kq => o_tail rfl rfl (by omega) (by simp; try omega) (by simp [encI]) (by decide) kq) ?_
        refine c_flo rfl rfl (fun Xq rq Qq dq kq => o_appendp rfl rfl (Src.v _ _) (fun z hz => okB_I z (List.mem_of_mem_drop hz)) (by simp [chunk]) (by simp; omega) (by simp [chunk_length]; omega) (by decide) kq) ?_
        refine c_flo rfl rfl (fun Xq rq Qq dq kq => o_appendp rfl rfl (Src.v _ _) (okB_In) (fun e he => okB_len (okB_I e (List.mem_of_mem_take he))) (by simp [chunk_length] <;> omega) (by simp [chunk_length]; omega) (by decide) kq) ?_
        refine c_flo rfl rfl (fun Xq rq Qq dq kq => o_assign rfl (by decide) kq) ?_
        refine c_nil ?_
        refine h_ret ?_
        have hst : stopP l n k = true := by simp only [stopP]; simp_all
        have hp := posP_some hlt hst hok
        have hq : putM l n = l.take k ++ n :: l.drop k := by unfold putM; rw [hp, if_neg (fun hc => by have h6 := c6; simp only [Int.toNat_natCast, decide_eq_false_iff_not] at h6; exact h6 hc.2)]
        exact ret1 rfl ⟨_, rfl, ⟨false, by rw [hq, ← put_enc (by omega)]; rfl⟩, rfl⟩
  ·
    obtain rfl : k = (l).length := by omega
    refine h_seq ?_
    refine h_seq ?_
    refine h_region ?_
    refine o_move rfl (by decide) ?_
    refine o_move rfl (by decide) ?_
    refine o_len rfl (by decide) ?_
    refine o_cmp rfl rfl rfl (by decide) ?_
    refine o_move rfl (by decide) ?_
    refine o_guardn rfl rfl (by simp <;> omega) (by decide) ?_
    refine o_guardn rfl rfl (by simp <;> omega) (by decide) ?_
    refine o_guardn rfl rfl (by simp <;> omega) (by decide) ?_
    refine o_guardn rfl rfl (by simp <;> omega) (by decide) ?_
    refine o_guardn rfl rfl (by simp <;> omega) (by decide) ?_
    refine o_guardn rfl rfl (by simp <;> omega) (by decide) ?_
    refine o_pickf rfl (by simp <;> omega) rfl (by decide) ?_
    refine o_nil ?_
    refine h_condf rfl rfl ?_
    refine h_exit ?_
    refine h_seq ?_
    refine h_seq ?_
    refine h_region ?_
    refine o_move rfl (by decide) ?_
    refine o_move rfl (by decide) ?_
    refine o_len rfl (by decide) ?_
    refine o_cmp rfl rfl rfl (by decide) ?_
    refine o_move rfl (by decide) ?_
    refine o_guardn rfl rfl (by simp) (by decide) ?_
    refine o_guardn rfl rfl (by simp) (by decide) ?_
    refine o_guardn rfl rfl (by simp) (by decide) ?_
    refine o_guardn rfl rfl (by simp) (by decide) ?_
    refine o_guardn rfl rfl (by simp) (by decide) ?_
    refine o_guardn rfl rfl (by simp) (by decide) ?_
    refine o_pickf rfl (by simp) rfl (by decide) ?_
    refine o_nil ?_
    refine h_condf rfl rfl ?_
    refine h_skip ?_
    refine h_seq ?_
    refine h_draw _ (List.nil_sublist _) [(0, .flo), (1, .flo), (2, .flo), (3, .flo), (4, .flo), (5, .flo), (6, .flo), (7, .flo), (8, .flo), (9, .flo), (10, .flo), (11, .flo)] mixed (by kernel_rfl) ?_
    refine c_flo rfl rfl (fun Xq rq Qq dq kq => o_move rfl (by decide) kq) ?_
    refine c_flo rfl rfl (fun Xq rq Qq dq kq => o_move rfl (by decide) kq) ?_
    refine c_flo rfl rfl (fun Xq rq Qq dq kq => o_move rfl (by decide) kq) ?_
    refine c_flo rfl rfl (fun Xq rq Qq dq kq => o_front3 rfl rfl rfl (by omega) (by simp; try omega) (by simp [encI]) (by decide) kq) ?_
    refine c_flo rfl rfl (fun Xq rq Qq dq kq => o_move rfl (by decide) kq) ?_
    refine c_flo rfl rfl (fun Xq rq Qq dq kq => o_buildSlicep rfl (by rfl) (by rfl) (by rfl) (by rfl) (by decide) kq) ?_
    refine c_flo rfl rfl (fun Xq rq Qq dq kq => o_move rfl (by decide) kq) ?_
    refine c_flo rfl rfl (fun Xq rq Qq dq kq => o_move rfl (by decide) kq) ?_
    refine c_flo rfl rfl (fun Xq rq Qq dq kq => o_tail rfl rfl (by omega) (by simp; try omega) (by simp [encI]) (by decide) kq) ?_
    refine c_flo rfl rfl (fun Xq rq Qq dq kq => o_append00 rfl rfl (by simp) (by decide) kq) ?_
    refine c_flo rfl rfl (fun Xq rq Qq dq kq => o_appendp rfl rfl (Src.v _ _) (okB_one rfl) (fun e he => okB_len (okB_I e (List.mem_of_mem_take he))) (by simp [chunk_length] <;> omega) (by simp [chunk_length]; omega) (by decide) kq) ?_
    refine c_flo rfl rfl (fun Xq rq Qq dq kq => o_assign rfl (by decide) kq) ?_
    refine c_nil ?_
    refine h_ret ?_
    have hp := posP_none hok
    have hq : putM l n = l.take l.length ++ n :: l.drop l.length := by unfold putM; rw [hp, if_neg (fun hc => absurd hc.1 (by omega))]
    exact ret1 rfl ⟨_, rfl, ⟨false, by rw [hq]; simp [encI, chunk, List.take_of_length_le]⟩, rfl⟩

end Go.Proofs.Ytbnonekkjjcdgaa
/- The walk of the reference's edges. -/
namespace Go.Proofs.Ytbnonekkjjcdgaa
open Go Go.RowKit Go.Shelf Hp
set_option maxRecDepth 10000
set_option maxHeartbeats 1000000
set_option linter.unusedVariables false
set_option linter.unusedSimpArgs false
attribute [local irreducible] WP WPs FnX IterX YdX RetP PanP Ch Back Join
def edgesA (l : List Blk) (o : List Int) : List Int := l.foldl (fun o x => putM (putM o x.f) x.t) o
abbrev eg0 : List Int := [0, 100000000]
def edgesM (a b : List Blk) : List Int := edgesA b (edgesA a eg0)
theorem edgesA_len : ∀ (l : List Blk) (o : List Int), (edgesA l o).length ≤ o.length + 2 * l.length
  | [], o => by simp [edgesA]
  | x :: l, o => by
    have h1 := edgesA_len l (putM (putM o x.f) x.t)
    have h2 := putM_len (putM o x.f) x.t
    have h3 := putM_len o x.f
    simp only [edgesA, List.foldl_cons, List.length_cons] at h1 ⊢
    omega
theorem edgesA_succ {l : List Blk} {o : List Int} {k : Nat} (h : k < l.length) : edgesA (l.take (k + 1)) o = putM (putM (edgesA (l.take k) o) (l.getD k dB).f) (l.getD k dB).t := by
  have e : l.take (k + 1) = l.take k ++ [l.getD k dB] := by rw [List.take_add_one, List.getElem?_eq_getElem h]; simp [h]
  rw [e, edgesA, List.foldl_append]; rfl

theorem edges_spec (a b : List Blk) (ha : a.length ≤ 1000000000) (hb : b.length ≤ 1000000000) (fa fb : Bool) : Fc Try.prog 87 [V (a.map encB) fa, V (b.map encB) fb] [] (fun r h' => (∃ f', r = V ((edgesM a b).map encI) f') ∧ h' = []) := by
  refine fnE_intro (N := 52) Try.func87 rfl rfl rfl ?_
  intro X
  refine h_seq ?_
  refine h_region ?_
  refine o_assign rfl (by decide) ?_
  refine o_nil ?_
  refine h_seq ?_
  refine h_region ?_
  refine o_buildSlicep rfl (by rfl) (by rfl) (by rfl) (by rfl) (by decide) ?_
  refine o_assign rfl (by decide) ?_
  refine o_nil ?_
  refine h_seq ?_
  refine h_seq ?_
  refine h_region ?_
  refine o_assign rfl (by decide) ?_
  refine o_nil ?_
  refine h_block ?_
  refine h_famS (ι := {p : Nat × Bool // p.1 ≤ a.length}) (fun i => [(0, V (a.map encB) fa), (1, V (b.map encB) fb), (5, V ((edgesA (a.take i.1.1) eg0).map encI) i.1.2), (6, I (i.1.1 : Nat))]) (fun i => []) (fun i => a.length - i.1.1) ⟨(0, true), Nat.zero_le _⟩ (.refl _) (subT.cons rfl (subT.cons rfl (subT.cons rfl (subT.cons rfl subT.nil)))) ?_
  rintro ⟨⟨k, fl⟩, hk⟩
  dsimp only at hk ⊢
  by_cases hlt : k < a.length
  ·
    have h1 := edgesA_len (a.take k) eg0
    have h2 : (a.take k).length = k := by simp; omega
    have h3 := edgesA_len a eg0
    have h4 : eg0.length = 2 := rfl
    have hcl : (edgesA (a.take k) eg0).length ≤ 10000000000 := by omega
    have h5 := putM_len (edgesA (a.take k) eg0) (a.getD ((k : Nat) : Int).toNat dB).f
    have hcl2 : (putM (edgesA (a.take k) eg0) (a.getD ((k : Nat) : Int).toNat dB).f).length ≤ 10000000000 := by omega
    refine h_seq ?_
    refine h_seq ?_
    refine h_region ?_
    refine o_move rfl (by decide) ?_
    refine o_move rfl (by decide) ?_
    refine o_len rfl (by decide) ?_
    refine o_cmp rfl rfl rfl (by decide) ?_
    refine o_nil ?_
    refine h_condt rfl (by simp; omega) ?_
    refine h_skip ?_
    refine h_seq ?_
    refine h_block ?_
    refine h_draw _ (List.nil_sublist _) [(0, .flo), (1, .flo), (2, .flo), (3, .flo), (4, .flo), (5, .flo), (6, .val), (8, .flo), (9, .flo), (10, .flo), (11, .flo), (12, .flo), (13, .val), (7, .new), (14, .new), (15, .flo)] mixed (by kernel_rfl) ?_
    refine c_flo rfl rfl (fun Xq rq Qq dq kq => o_move rfl (by decide) kq) ?_
    refine c_flo rfl rfl (fun Xq rq Qq dq kq => o_move rfl (by decide) kq) ?_
    refine c_flo rfl rfl (fun Xq rq Qq dq kq => o_move rfl (by decide) kq) ?_
    refine c_flo rfl rfl (fun Xq rq Qq dq kq => o_idxv rfl rfl (by omega) (eltBk (by simpa using hlt)) rfl (by decide) kq) ?_
    refine c_flo rfl rfl (fun Xq rq Qq dq kq => o_faddrv rfl rfl (by decide) rfl (by decide) kq) ?_
    refine c_flo rfl rfl (fun Xq rq Qq dq kq => o_faddrv rfl rfl (by decide) rfl (by decide) kq) ?_
    refine c_val rfl rfl (fun Xq rq Qq dq kq => o_loadv rfl rfl (by decide) kq) ?_
    refine c_flo rfl rfl (fun Xq rq Qq dq kq => o_move rfl (by decide) kq) ?_
    refine c_flo rfl rfl (fun Xq rq Qq dq kq => o_move rfl (by decide) kq) ?_
    refine c_flo rfl rfl (fun Xq rq Qq dq kq => o_idxv rfl rfl (by omega) (eltBk (by simpa using hlt)) rfl (by decide) kq) ?_
    refine c_flo rfl rfl (fun Xq rq Qq dq kq => o_faddrv rfl rfl (by decide) rfl (by decide) kq) ?_
    refine c_flo rfl rfl (fun Xq rq Qq dq kq => o_faddrv rfl rfl (by decide) rfl (by decide) kq) ?_
    refine c_val rfl rfl (fun Xq rq Qq dq kq => o_loadv rfl rfl (by decide) kq) ?_
    refine c_newG (ι := Bool) (fun f' => V ((putM (edgesA (a.take k) eg0) (a.getD ((k : Nat) : Int).toNat dB).f).map encI) f') (fun _ => []) rfl rfl (fun X r Q ds kk => o_callA rfl rfl EntC.out (by decide) (put_spec _ hcl fl _) fun v h' hr => by obtain ⟨⟨f', rfl⟩, rfl⟩ := hr; exact kk f') fun f22 => ?_
    refine c_newG (ι := Bool) (fun f' => V ((putM (putM (edgesA (a.take k) eg0) (a.getD ((k : Nat) : Int).toNat dB).f) (a.getD ((k : Nat) : Int).toNat dB).t).map encI) f') (fun _ => []) rfl rfl (fun X r Q ds kk => o_callA rfl rfl EntC.out (by decide) (put_spec _ hcl2 _ _) fun v h' hr => by obtain ⟨⟨f', rfl⟩, rfl⟩ := hr; exact kk f') fun f29 => ?_
    refine c_flo rfl rfl (fun Xq rq Qq dq kq => o_assign rfl (by decide) kq) ?_
    refine c_nil ?_
    refine h_region ?_
    refine o_move rfl (by decide) ?_
    refine o_add rfl rfl (by unfold in64; (try dsimp only); omega) (by decide) ?_
    refine o_assign rfl (by decide) ?_
    refine o_nil ?_
    refine back rfl ⟨(k + 1, f29), hlt⟩ (by dsimp only; omega) (.refl _) (subT.cons rfl (subT.cons rfl (subT.cons (by dsimp only; rw [edgesA_succ hlt]; rfl) (subT.cons rfl subT.nil))))
  ·
    obtain rfl : k = a.length := by omega
    rw [List.take_length]
    refine h_seq ?_
    refine h_seq ?_
    refine h_region ?_
    refine o_move rfl (by decide) ?_
    refine o_move rfl (by decide) ?_
    refine o_len rfl (by decide) ?_
    refine o_cmp rfl rfl rfl (by decide) ?_
    refine o_nil ?_
    refine h_condf rfl (by simp <;> omega) ?_
    refine h_exit ?_
    refine h_seq ?_
    refine h_seq ?_
    refine h_region ?_
    refine o_assign rfl (by decide) ?_
    refine o_nil ?_
    refine h_block ?_
    refine h_famS (ι := {p : Nat × Bool // p.1 ≤ b.length}) (fun i => [(0, V (a.map encB) fa), (1, V (b.map encB) fb), (5, V ((edgesA (b.take i.1.1) (edgesA a eg0)).map encI) i.1.2), (7, I (i.1.1 : Nat))]) (fun i => []) (fun i => b.length - i.1.1) ⟨(0, fl), Nat.zero_le _⟩ (.refl _) (subT.cons rfl (subT.cons rfl (subT.cons rfl (subT.cons rfl subT.nil)))) ?_
    rintro ⟨⟨k, fl⟩, hk⟩
    dsimp only at hk ⊢
    by_cases hlt : k < b.length
    ·
      have h1 := edgesA_len (b.take k) (edgesA a eg0)
      have h2 : (b.take k).length = k := by simp; omega
      have h3 := edgesA_len a eg0
      have h4 : eg0.length = 2 := rfl
      have hcl : (edgesA (b.take k) (edgesA a eg0)).length ≤ 10000000000 := by omega
      have h5 := putM_len (edgesA (b.take k) (edgesA a eg0)) (b.getD ((k : Nat) : Int).toNat dB).f
      have hcl2 : (putM (edgesA (b.take k) (edgesA a eg0)) (b.getD ((k : Nat) : Int).toNat dB).f).length ≤ 10000000000 := by omega
      refine h_seq ?_
      refine h_seq ?_
      refine h_region ?_
      refine o_move rfl (by decide) ?_
      refine o_move rfl (by decide) ?_
      refine o_len rfl (by decide) ?_
      refine o_cmp rfl rfl rfl (by decide) ?_
      refine o_nil ?_
      refine h_condt rfl (by simp; omega) ?_
      refine h_skip ?_
      refine h_seq ?_
      refine h_block ?_
      refine h_draw _ (List.nil_sublist _) [(0, .flo), (1, .flo), (2, .flo), (3, .flo), (4, .flo), (5, .flo), (6, .val), (8, .flo), (9, .flo), (10, .flo), (11, .flo), (12, .flo), (13, .val), (7, .new), (14, .new), (15, .flo)] mixed (by kernel_rfl) ?_
      refine c_flo rfl rfl (fun Xq rq Qq dq kq => o_move rfl (by decide) kq) ?_
      refine c_flo rfl rfl (fun Xq rq Qq dq kq => o_move rfl (by decide) kq) ?_
      refine c_flo rfl rfl (fun Xq rq Qq dq kq => o_move rfl (by decide) kq) ?_
      refine c_flo rfl rfl (fun Xq rq Qq dq kq => o_idxv rfl rfl (by omega) (eltBk (by simpa using hlt)) rfl (by decide) kq) ?_
      refine c_flo rfl rfl (fun Xq rq Qq dq kq => o_faddrv rfl rfl (by decide) rfl (by decide) kq) ?_
      refine c_flo rfl rfl (fun Xq rq Qq dq kq => o_faddrv rfl rfl (by decide) rfl (by decide) kq) ?_
      refine c_val rfl rfl (fun Xq rq Qq dq kq => o_loadv rfl rfl (by decide) kq) ?_
      refine c_flo rfl rfl (fun Xq rq Qq dq kq => o_move rfl (by decide) kq) ?_
      refine c_flo rfl rfl (fun Xq rq Qq dq kq => o_move rfl (by decide) kq) ?_
      refine c_flo rfl rfl (fun Xq rq Qq dq kq => o_idxv rfl rfl (by omega) (eltBk (by simpa using hlt)) rfl (by decide) kq) ?_
      refine c_flo rfl rfl (fun Xq rq Qq dq kq => o_faddrv rfl rfl (by decide) rfl (by decide) kq) ?_
      refine c_flo rfl rfl (fun Xq rq Qq dq kq => o_faddrv rfl rfl (by decide) rfl (by decide) kq) ?_
      refine c_val rfl rfl (fun Xq rq Qq dq kq => o_loadv rfl rfl (by decide) kq) ?_
      refine c_newG (ι := Bool) (fun f' => V ((putM (edgesA (b.take k) (edgesA a eg0)) (b.getD ((k : Nat) : Int).toNat dB).f).map encI) f') (fun _ => []) rfl rfl (fun X r Q ds kk => o_callA rfl rfl EntC.out (by decide) (put_spec _ hcl fl _) fun v h' hr => by obtain ⟨⟨f', rfl⟩, rfl⟩ := hr; exact kk f') fun f43 => ?_
      refine c_newG (ι := Bool) (fun f' => V ((putM (putM (edgesA (b.take k) (edgesA a eg0)) (b.getD ((k : Nat) : Int).toNat dB).f) (b.getD ((k : Nat) : Int).toNat dB).t).map encI) f') (fun _ => []) rfl rfl (fun X r Q ds kk => o_callA rfl rfl EntC.out (by decide) (put_spec _ hcl2 _ _) fun v h' hr => by obtain ⟨⟨f', rfl⟩, rfl⟩ := hr; exact kk f') fun f50 => ?_
      refine c_flo rfl rfl (fun Xq rq Qq dq kq => o_assign rfl (by decide) kq) ?_
      refine c_nil ?_
      refine h_region ?_
      refine o_move rfl (by decide) ?_
      refine o_add rfl rfl (by unfold in64; (try dsimp only); omega) (by decide) ?_
      refine o_assign rfl (by decide) ?_
      refine o_nil ?_
      refine back rfl ⟨(k + 1, f50), hlt⟩ (by dsimp only; omega) (.refl _) (subT.cons rfl (subT.cons rfl (subT.cons (by dsimp only; rw [edgesA_succ hlt]; rfl) (subT.cons rfl subT.nil))))
    ·
      obtain rfl : k = b.length := by omega
      rw [List.take_length]
      refine h_seq ?_
      refine h_seq ?_
      refine h_region ?_
      refine o_move rfl (by decide) ?_
      refine o_move rfl (by decide) ?_
      refine o_len rfl (by decide) ?_
      refine o_cmp rfl rfl rfl (by decide) ?_
      refine o_nil ?_
      refine h_condf rfl (by simp <;> omega) ?_
      refine h_exit ?_
      refine h_seq ?_
      refine h_region ?_
      refine o_move rfl (by decide) ?_
      refine o_assign rfl (by decide) ?_
      refine o_nil ?_
      refine h_ret ?_
      exact ret1 rfl ⟨_, rfl, ⟨fl, rfl⟩, rfl⟩

end Go.Proofs.Ytbnonekkjjcdgaa
