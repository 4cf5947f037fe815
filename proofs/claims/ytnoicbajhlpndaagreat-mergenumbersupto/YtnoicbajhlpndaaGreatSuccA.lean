/- The walk of the law MergeLevels. -/
import Derived.Test.YtnoicbajhlpndaaGreatTimeA
namespace Go.Proofs.YtnoicbajhlpndaaGreat
open Go Go.RowKit Go.Shelf Hp
set_option maxRecDepth 10000
set_option maxHeartbeats 1000000
set_option linter.unusedVariables false
set_option linter.unusedSimpArgs false
attribute [local irreducible] WP WPs FnX IterX YdX RetP PanP Ch Back Join
theorem ok3_nil : ok3 [] := fun k hk => by simp at hk

end Go.Proofs.YtnoicbajhlpndaaGreat
/- What events do, one after the other: who is alive, who succeeds whom, who holds a number. -/
namespace Go.Proofs.YtnoicbajhlpndaaGreat
open Go Go.RowKit Go.Shelf Hp
set_option maxRecDepth 10000
set_option maxHeartbeats 1000000
set_option linter.unusedVariables false
set_option linter.unusedSimpArgs false
attribute [local irreducible] WP WPs FnX IterX YdX RetP PanP Ch Back Join
theorem step_facts {w : Wd} {e : Ev} (hv : VParts w) (h : (stepM w e).2 = 0) : okE w e = true ∧ doW w e = some (stepM w e).1 ∧ VParts (stepM w e).1 := by
  have hs := stepW_of hv h
  unfold stepW at hs
  split at hs
  · cases hs
  · rename_i ho
    cases hd : doW w e with
    | none => rw [hd] at hs; cases hs
    | some w' =>
      rw [hd] at hs
      dsimp only at hs
      split at hs
      · cases hs; exact ⟨by simpa using ho, rfl, step_valid h⟩
      · cases hs
theorem step_eff' {w : Wd} {e : Ev} (hv : VParts w) (h : (stepM w e).2 = 0) (hk : e.kind ≠ 4) : Eff w (stepM w e).1 e := by
  obtain ⟨ho, hd, hv'⟩ := step_facts hv h
  obtain ⟨hk4, ht, hA, hB, hC, hal⟩ := okE_iff.1 ho
  have : e.kind = 1 ∨ e.kind = 2 ∨ e.kind = 3 := by omega
  rcases this with k | k | k
  · exact merge_eff k hv hv' (by rw [← doW1 k]; exact hd)
  · exact split_eff k hB.1 hv hv' (by rw [← doW2 k]; exact hd)
  · exact wind_eff k hB.1 hv hv' (by rw [← doW3 k]; exact hd)
theorem step_up {w : Wd} {e : Ev} (hv : VParts w) (h : (stepM w e).2 = 0) (hk : e.kind = 4) : (stepM w e).1 = { w with lev := w.lev.set e.a.toNat (w.lev.getD e.a.toNat 0 + 1) } := by
  obtain ⟨ho, hd, hv'⟩ := step_facts hv h
  rw [doW4 hk] at hd
  unfold upW at hd
  split at hd
  · cases hd
  · split at hd
    · cases hd
    · exact (Option.some.inj hd).symm
/-! ### who was alive -/
/-! ### successors -/
theorem succE_rng {n c : Int} {e : Ev} (hc : 0 ≤ c ∧ c ≤ 7) (hb : 0 ≤ e.b ∧ e.b ≤ 7) (h3 : 0 ≤ e.c ∧ e.c ≤ 7) : 0 ≤ succE n c e ∧ succE n c e ≤ 7 := by
  unfold succE; (repeat' split) <;> assumption
theorem succN_rng : ∀ {l : List Ev} {w : Wd} {t n c : Int}, PossL w t l → 0 ≤ c ∧ c ≤ 7 → 0 ≤ succN n c l ∧ succN n c l ≤ 7
  | [], _, _, _, _, _, h => h
  | e :: l, w, t, n, c, ⟨g1, g2, g3⟩, h => by
    simp only [succN, List.foldl_cons]
    exact succN_rng (l := l) g3 (succE_rng h ⟨g1.b0, g1.b7⟩ ⟨g1.c0, g1.c7⟩)
/-! ### who holds a number -/
theorem step_hold {w : Wd} {e : Ev} (hv : VParts w) (h : (stepM w e).2 = 0) {n : Int} (n0 : 0 ≤ n) (n1 : n < 100000000) :
    hd n (stepM w e).1.blocks = if hd n w.blocks = -1 then -1 else succE n (hd n w.blocks) e := by
  obtain ⟨ho, hd', hv'⟩ := step_facts hv h
  obtain ⟨hk4, ht, hA, hB, hC, hal⟩ := okE_iff.1 ho
  by_cases hk : e.kind = 4
  · rw [step_up hv h hk]
    dsimp only
    split
    · assumption
    · simp only [succE, hk]; simp
  · have he := step_eff' hv h hk
    rw [he.hold n n0 n1]
    by_cases h1 : hd n w.blocks = -1
    · rw [if_neg (by omega), if_pos h1]; exact h1
    · rw [if_neg h1]
      by_cases h2 : hd n w.blocks = e.a
      · rw [if_pos h2, h2]
        simp only [succE, subE, inM, ne_eq, not_true_eq_false, if_false, Bool.and_eq_true, decide_eq_true_eq]
        by_cases k1 : e.kind = 1
        · simp [k1]
        · simp only [k1, if_false]
          by_cases hin : inV e n
          · have hin' : e.f ≤ n ∧ n < e.to := hin
            rw [if_pos (show ¬ e.kind = 4 ∧ e.f ≤ n ∧ n ≤ e.to - 1 from ⟨hk, by omega, by omega⟩)]
            split <;> simp [hin]
          · have hin' : ¬(e.f ≤ n ∧ n < e.to) := hin
            rw [if_neg (show ¬ (¬ e.kind = 4 ∧ e.f ≤ n ∧ n ≤ e.to - 1) from fun h => hin' (by omega))]
            by_cases k2 : e.kind = 2
            · rw [if_pos k2, if_neg hin, if_neg (by omega)]
            · rw [if_neg k2, if_neg hin, if_pos (by omega)]
      · rw [if_neg h2]; simp only [succE]; rw [if_pos (fun h => h2 h.symm)]
theorem world_hold : ∀ {l : List Ev} {w : Wd} {t n : Int}, 0 ≤ n → n < 100000000 → VParts w → PossL w t l → hd n (worldA w l).blocks = if hd n w.blocks = -1 then -1 else succN n (hd n w.blocks) l
  | [], w, t, n, n0, n1, hv, _ => by
    show hd n w.blocks = _
    split
    · assumption
    · rfl
  | e :: l, w, t, n, n0, n1, hv, ⟨g1, g2, g3⟩ => by
    have ih := world_hold (l := l) n0 n1 (step_valid g2) g3
    have hs := step_hold hv g2 n0 n1
    have hr := hd_rng (m := n) (valid_can (step_valid g2).blk)
    have hr0 := hd_rng (m := n) (valid_can hv.blk)
    show hd n (worldA (stepM w e).1 l).blocks = _
    rw [ih]
    by_cases h1 : hd n w.blocks = -1
    · rw [if_pos h1] at hs ⊢; rw [if_pos hs]
    · rw [if_neg h1] at hs ⊢
      have hp := succE_rng (n := n) (c := hd n w.blocks) (e := e) (by omega) ⟨g1.b0, g1.b7⟩ ⟨g1.c0, g1.c7⟩
      rw [if_neg (by rw [hs]; omega), hs]
      simp only [succN, List.foldl_cons]
/-! ### events after a time -/
end Go.Proofs.YtnoicbajhlpndaaGreat
/- The walk of the law MergeSuccessions. -/
namespace Go.Proofs.YtnoicbajhlpndaaGreat
open Go Go.RowKit Go.Shelf Hp
set_option maxRecDepth 10000
set_option maxHeartbeats 1000000
set_option linter.unusedVariables false
set_option linter.unusedSimpArgs false
attribute [local irreducible] WP WPs FnX IterX YdX RetP PanP Ch Back Join
theorem succM_of {w : Wd} {l : List Ev} {t s c n : Int} (hv : VParts w) (h8 : l.length ≤ 20) (h : PossL w t l) (h0 : 0 ≤ s) (h1 : s ≤ 20000000) (c0 : 0 ≤ c) (c1 : c ≤ 7) (n0 : 0 ≤ n) (n1 : n ≤ 99999999) : succM w l c n s = (succN n c (untilM l s), 0) := by
  unfold succM
  rw [if_neg (by simp [possM_of hv h8 h h0 h1, carOk_iff.2 ⟨c0, c1⟩, inM]; omega)]

end Go.Proofs.YtnoicbajhlpndaaGreat
