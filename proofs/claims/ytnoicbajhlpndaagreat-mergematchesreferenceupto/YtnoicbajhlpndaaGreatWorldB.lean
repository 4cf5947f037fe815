/- The walk of the law MergeBack; what it leaves to show of worlds. -/
import Derived.Test.YtnoicbajhlpndaaGreatRefC
import Derived.Test.YtnoicbajhlpndaaGreatWorldA
namespace Go.Proofs.YtnoicbajhlpndaaGreat
open Go Go.RowKit Go.Shelf Hp
set_option maxRecDepth 10000
set_option maxHeartbeats 1000000
set_option linter.unusedVariables false
set_option linter.unusedSimpArgs false
attribute [local irreducible] WP WPs FnX IterX YdX RetP PanP Ch Back Join
/-- What is known of a slice's capacity may be forgotten. -/
theorem weakP {hp : Array Obj} {imm : Nat → Prop} {es : List (List PV)} {f : Bool} {v : Value} (h : RelP hp imm (.vs es f) v) : RelP hp imm (.vs es false) v := by
  cases h with
  | nil => exact .nil false
  | vs _ _ b off k cap cells ty fz hb hi hf hc hs hk hr => exact .vs es false b off k cap cells ty fz hb hi (by intro h; cases h) hc hs hk hr
theorem weakA {hp : Array Obj} {imm : Nat → Prop} {es : List (List PV)} {f : Bool} {v : Value} (h : RelA hp imm (V es f) v) : RelA hp imm (V es false) v := by
  cases h with
  | p h => exact .p (weakP h)
theorem weakW {hp : Array Obj} {imm : Nat → Prop} {w : Wd} {f1 f2 f3 : Bool} {v : Value} (h : RelA hp imm (encW w f1 f2 f3) v) : RelA hp imm (encW w false false false) v := by
  cases h with
  | agg cs vals hs hr =>
    refine .agg _ _ (by simpa using hs) fun i c v hc hv => ?_
    match i with
    | 0 => exact hr 0 c v hc hv
    | 1 => exact hr 1 c v hc hv
    | 2 => cases hc; exact weakA (hr 2 _ v rfl hv)
    | 3 => cases hc; exact weakA (hr 3 _ v rfl hv)
    | 4 => cases hc; exact weakA (hr 4 _ v rfl hv)
    | i + 5 => cases hc
theorem weakT {hp : Array Obj} {imm : Nat → Prop} {w : Wd} {f1 f2 f3 : Bool} {n : Int} {v : Value} (h : RelA hp imm (.tup [encW w f1 f2 f3, I n]) v) : RelA hp imm (.tup [encW w false false false, I n]) v := by
  cases h with
  | tup cs vals hs hr =>
    refine .tup _ _ (by simpa using hs) fun i c v hc hv => ?_
    match i with
    | 0 => cases hc; exact weakW (hr 0 _ v rfl hv)
    | 1 => exact hr 1 c v hc hv
    | i + 2 => cases hc
theorem stepF_spec (w : Wd) (e : Ev) (f1 f2 f3 : Bool) : Fn1 Tryz.prog 16 [encW w f1 f2 f3, encE e] (.tup [encW (stepM w e).1 false false false, I (stepM w e).2]) := by
  intro X
  have hs := mStep_spec w e f1 f2 f3 X
  unfold FnX at hs ⊢
  intro w0 vals hh ha
  refine (hs w0 vals hh ha).mono fun e' w' ⟨E, h', ⟨r, hE, hr0, u1, u2, u3, hr1⟩, hr, hh', hx⟩ => ?_
  subst hE; subst hr0; subst hr1
  cases hr with
  | ret hr => exact ⟨_, [], ⟨_, rfl, rfl, rfl⟩, .ret (weakT hr), hh', hx⟩
theorem small_v {w : Wd} (h : VParts w) : smallW w := ⟨by have := valid_len h.blk; omega, by have := h.lb; omega, by have := h.ll; omega⟩

end Go.Proofs.YtnoicbajhlpndaaGreat
/- A part that is split off and merges again: the law of MergeBack. -/
namespace Go.Proofs.YtnoicbajhlpndaaGreat
open Go Go.RowKit Go.Shelf Hp
set_option maxRecDepth 10000
set_option maxHeartbeats 1000000
set_option linter.unusedVariables false
set_option linter.unusedSimpArgs false
attribute [local irreducible] WP WPs FnX IterX YdX RetP PanP Ch Back Join
/-- Who is alive has been alive. -/
theorem alive_ever {w : Wd} (h : VParts w) {i : Int} (i0 : 0 ≤ i) (i1 : i ≤ 7) (ha : hasC w.alive i = true) : hasC w.ever i = true := by
  have he := h.ever
  simp only [inM, Bool.and_eq_true, decide_eq_true_eq] at he
  obtain ⟨r0, r1⟩ := alive_range h
  have hs := h.sub
  obtain ⟨a, hae⟩ := Int.eq_ofNat_of_zero_le r0
  obtain ⟨e, hee⟩ := Int.eq_ofNat_of_zero_le he.1
  have key : ∀ a e : Fin 256, ∀ i : Fin 8, (a.val &&& e.val) = a.val → bitM (a.val : Int) (i.val : Int) = true → bitM (e.val : Int) (i.val : Int) = true := by
    intro a e i h1 h2
    have hb : ∀ s : Fin 256, ∀ i : Fin 8, bitM (s.val : Int) (i.val : Int) = s.val.testBit i.val := by decide +kernel
    rw [hb] at h2 ⊢
    have := congrArg (fun n => n.testBit i.val) h1
    simp only [Nat.testBit_and, h2, Bool.true_and] at this
    exact this
  rw [has_bit r0 r1 i0 i1] at ha
  rw [has_bit he.1 (by omega) i0 i1]
  rw [hae, hee, bits_and_nat (by omega) (by omega)] at hs
  have := key ⟨a, by omega⟩ ⟨e, by omega⟩ ⟨i.toNat, by omega⟩ (by dsimp only; omega)
  dsimp only at this
  rw [Int.toNat_of_nonneg i0] at this
  rw [hae] at ha
  rw [hee]; exact this ha
/-! ### levels -/
theorem lvs_in {w : Wd} : ∀ {k j : Nat}, j < k → hasC w.alive j = true → w.lev.getD j 0 ∈ lvsTo w k
  | 0, j, h, _ => by omega
  | k + 1, j, h, hb => by
    simp only [lvsTo]
    rcases Nat.lt_or_ge j k with hj | hj
    · have := lvs_in hj hb
      split
      · exact List.mem_append_left _ this
      · exact this
    · obtain rfl : j = k := by omega
      rw [if_pos hb]; simp
end Go.Proofs.YtnoicbajhlpndaaGreat
/- A part that is split off and merges again: the law of MergeBack. -/
namespace Go.Proofs.YtnoicbajhlpndaaGreat
open Go Go.RowKit Go.Shelf Hp
set_option maxRecDepth 10000
set_option maxHeartbeats 1000000
set_option linter.unusedVariables false
set_option linter.unusedSimpArgs false
attribute [local irreducible] WP WPs FnX IterX YdX RetP PanP Ch Back Join
section
variable {w : Wd} {b c f t m : Int}
theorem ever_rng (h : VParts w) : 0 ≤ w.ever ∧ w.ever ≤ 255 := by have := h.ever; simpa [inM] using this
end
end Go.Proofs.YtnoicbajhlpndaaGreat
