/- The walk of the law MergeLevels. -/
import Derived.Test.YtnoicbajhlpndaaGreatTimeA
namespace Go.Proofs.YtnoicbajhlpndaaGreat
open Go Go.RowKit Go.Shelf Hp
set_option maxRecDepth 10000
set_option maxHeartbeats 1000000
set_option linter.unusedVariables false
set_option linter.unusedSimpArgs false
attribute [local irreducible] WP WPs FnX IterX YdX RetP PanP Ch Back Join
theorem ok3_nil : ok3 [] := fun k hk => by simp at hk

end Go.Proofs.YtnoicbajhlpndaaGreat
/- What events do, one after the other: who is alive, who succeeds whom, who holds a number. -/
namespace Go.Proofs.YtnoicbajhlpndaaGreat
open Go Go.RowKit Go.Shelf Hp
set_option maxRecDepth 10000
set_option maxHeartbeats 1000000
set_option linter.unusedVariables false
set_option linter.unusedSimpArgs false
attribute [local irreducible] WP WPs FnX IterX YdX RetP PanP Ch Back Join
theorem bits_all3 : ∀ s : Fin 256, ∀ i j : Fin 8, bitM (bits64 .andNot (s.val : Int) (1 * 2 ^ i.val)) (j.val : Int) = (bitM (s.val : Int) (j.val : Int) && !decide (i = j)) := by decide +kernel
theorem bit_not {s i j : Int} (s0 : 0 ≤ s) (s1 : s ≤ 255) (i0 : 0 ≤ i) (i1 : i ≤ 7) (j0 : 0 ≤ j) (j1 : j ≤ 7) : bitM (bits64 .andNot s (1 * 2 ^ i.toNat)) j = (bitM s j && !decide (i = j)) := by
  have h := bits_all3 ⟨s.toNat, by omega⟩ ⟨i.toNat, by omega⟩ ⟨j.toNat, by omega⟩
  dsimp only at h
  rw [Int.toNat_of_nonneg s0, Int.toNat_of_nonneg j0] at h
  rw [h]
  congr 2
  simp only [Fin.mk.injEq, decide_eq_decide]
  omega
theorem step_facts {w : Wd} {e : Ev} (hv : VParts w) (h : (stepM w e).2 = 0) : okE w e = true ∧ doW w e = some (stepM w e).1 ∧ VParts (stepM w e).1 := by
  have hs := stepW_of hv h
  unfold stepW at hs
  split at hs
  · cases hs
  · rename_i ho
    cases hd : doW w e with
    | none => rw [hd] at hs; cases hs
    | some w' =>
      rw [hd] at hs
      dsimp only at hs
      split at hs
      · cases hs; exact ⟨by simpa using ho, rfl, step_valid h⟩
      · cases hs
theorem step_eff' {w : Wd} {e : Ev} (hv : VParts w) (h : (stepM w e).2 = 0) (hk : e.kind ≠ 4) : Eff w (stepM w e).1 e := by
  obtain ⟨ho, hd, hv'⟩ := step_facts hv h
  obtain ⟨hk4, ht, hA, hB, hC, hal⟩ := okE_iff.1 ho
  have : e.kind = 1 ∨ e.kind = 2 ∨ e.kind = 3 := by omega
  rcases this with k | k | k
  · exact merge_eff k hv hv' (by rw [← doW1 k]; exact hd)
  · exact split_eff k hB.1 hv hv' (by rw [← doW2 k]; exact hd)
  · exact wind_eff k hB.1 hv hv' (by rw [← doW3 k]; exact hd)
theorem step_up {w : Wd} {e : Ev} (hv : VParts w) (h : (stepM w e).2 = 0) (hk : e.kind = 4) : (stepM w e).1 = { w with lev := w.lev.set e.a.toNat (w.lev.getD e.a.toNat 0 + 1) } := by
  obtain ⟨ho, hd, hv'⟩ := step_facts hv h
  rw [doW4 hk] at hd
  unfold upW at hd
  split at hd
  · cases hd
  · split at hd
    · cases hd
    · exact (Option.some.inj hd).symm
theorem step_new {w : Wd} {e : Ev} (hv : VParts w) (h : (stepM w e).2 = 0) (hk : e.kind = 2) : hasC w.ever e.b = false := by
  obtain ⟨ho, hd, hv'⟩ := step_facts hv h
  rw [doW2 hk] at hd
  unfold splitW at hd
  split at hd
  · cases hd
  · rename_i hc
    simp only [Bool.not_eq_false, Bool.and_eq_true, Bool.not_eq_true'] at hc
    exact hc.2
/-- Who is alive behind an event, and who ever was. -/
theorem step_bits {w : Wd} {e : Ev} (hv : VParts w) (h : (stepM w e).2 = 0) {k : Int} (k0 : 0 ≤ k) (k1 : k ≤ 7) :
    bitM (stepM w e).1.alive k = (if e.kind = 2 then decide (e.b = k) || bitM w.alive k else if e.kind = 4 then bitM w.alive k else bitM w.alive k && !decide (e.a = k)) ∧
    bitM (stepM w e).1.ever k = (if e.kind = 2 then decide (e.b = k) || bitM w.ever k else bitM w.ever k) := by
  obtain ⟨ho, hd, hv'⟩ := step_facts hv h
  obtain ⟨hk4, ht, hA, hB, hC, hal⟩ := okE_iff.1 ho
  obtain ⟨a0, a1⟩ := alive_range hv
  obtain ⟨e0, e1⟩ := ever_rng hv
  by_cases hk : e.kind = 4
  · rw [step_up hv h hk, if_neg (by omega), if_pos hk, if_neg (by omega)]; exact ⟨rfl, rfl⟩
  · have he := step_eff' hv h hk
    rw [he.alive, he.ever]
    by_cases h2 : e.kind = 2
    · simp only [alvE, evrE, h2, if_true]
      exact ⟨bit_or a0 a1 hB.1 hB.2 k0 k1, bit_or e0 e1 hB.1 hB.2 k0 k1⟩
    · simp only [alvE, evrE, h2, hk, if_false]
      exact ⟨bit_not a0 a1 hA.1 hA.2 k0 k1, trivial⟩
/-! ### who was alive -/
theorem dead_stays : ∀ {l : List Ev} {w : Wd} {t : Int} {k : Int}, 0 ≤ k → k ≤ 7 → VParts w → PossL w t l → bitM w.ever k = true → bitM w.alive k = false → bitM (worldA w l).alive k = false
  | [], _, _, _, _, _, _, _, _, h => h
  | e :: l, w, t, k, k0, k1, hv, ⟨g1, g2, g3⟩, he, ha => by
    obtain ⟨b1, b2⟩ := step_bits hv g2 k0 k1
    obtain ⟨ho, _, _⟩ := step_facts hv g2
    obtain ⟨hk4, ht, hA, hB, hC, hal⟩ := okE_iff.1 ho
    obtain ⟨e0, e1⟩ := ever_rng hv
    refine dead_stays (l := l) k0 k1 (step_valid g2) g3 ?_ ?_
    · rw [b2]; split <;> simp [he]
    · rw [b1, ha]
      split
      · rename_i h2
        have := step_new hv g2 h2
        rw [has_bit e0 e1 hB.1 hB.2] at this
        have hne : e.b ≠ k := by rintro rfl; rw [he] at this; cases this
        simp [hne]
      · split <;> simp
theorem ever_stays : ∀ {l : List Ev} {w : Wd} {t : Int} {k : Int}, 0 ≤ k → k ≤ 7 → VParts w → PossL w t l → bitM w.ever k = true → bitM (worldA w l).ever k = true
  | [], _, _, _, _, _, _, _, h => h
  | e :: l, w, t, k, k0, k1, hv, ⟨g1, g2, g3⟩, he => by
    obtain ⟨b1, b2⟩ := step_bits hv g2 k0 k1
    refine ever_stays (l := l) k0 k1 (step_valid g2) g3 ?_
    rw [b2]; split <;> simp [he]
theorem alive_is_ever {w : Wd} (hv : VParts w) {k : Int} (k0 : 0 ≤ k) (k1 : k ≤ 7) (h : bitM w.alive k = true) : bitM w.ever k = true := by
  obtain ⟨a0, a1⟩ := alive_range hv
  obtain ⟨e0, e1⟩ := ever_rng hv
  rw [← has_bit a0 a1 k0 k1] at h
  rw [← has_bit e0 e1 k0 k1]
  exact alive_ever hv k0 k1 h
theorem bits_sub {x y : Int} (x0 : 0 ≤ x) (x1 : x ≤ 255) (y0 : 0 ≤ y) (y1 : y ≤ 255) (h : ∀ k : Int, 0 ≤ k → k ≤ 7 → bitM x k = true → bitM y k = true) : bits64 .andNot x y = 0 := by
  rw [not_sub x0 x1 y0 y1]
  obtain ⟨m, rfl⟩ := Int.eq_ofNat_of_zero_le x0
  obtain ⟨n, rfl⟩ := Int.eq_ofNat_of_zero_le y0
  rw [bits_and_nat (by omega) (by omega)]
  congr 1
  apply Nat.eq_of_testBit_eq
  intro i
  rw [Nat.testBit_and]
  have tb : ∀ (z : Nat) (i : Nat), bitM (z : Int) (i : Int) = z.testBit i := fun z i => by
    rw [Bool.eq_iff_iff, Nat.testBit_eq_decide_div_mod_eq]
    simp only [bitM, Int.toNat_natCast, decide_eq_true_eq]
    rw [show ((2 : Int) ^ i) = ((2 ^ i : Nat) : Int) from by simp, ← Int.natCast_ediv, Int.tmod_eq_emod_of_nonneg (Int.natCast_nonneg (z / 2 ^ i))]
    generalize z / 2 ^ i = q; omega
  by_cases hi : i ≤ 7
  · have := h i (by omega) (by omega)
    rw [tb, tb] at this
    cases hm : m.testBit i with
    | false => rfl
    | true => rw [this hm]; rfl
  · have : m.testBit i = false := Nat.testBit_lt_two_pow (Nat.lt_of_lt_of_le (show m < 2 ^ 8 by omega) (Nat.pow_le_pow_right (by omega) (by omega)))
    rw [this]; rfl
/-! ### successors -/
theorem succE_rng {n c : Int} {e : Ev} (hc : 0 ≤ c ∧ c ≤ 7) (hb : 0 ≤ e.b ∧ e.b ≤ 7) (h3 : 0 ≤ e.c ∧ e.c ≤ 7) : 0 ≤ succE n c e ∧ succE n c e ≤ 7 := by
  unfold succE; (repeat' split) <;> assumption
theorem succN_rng : ∀ {l : List Ev} {w : Wd} {t n c : Int}, PossL w t l → 0 ≤ c ∧ c ≤ 7 → 0 ≤ succN n c l ∧ succN n c l ≤ 7
  | [], _, _, _, _, _, h => h
  | e :: l, w, t, n, c, ⟨g1, g2, g3⟩, h => by
    simp only [succN, List.foldl_cons]
    exact succN_rng (l := l) g3 (succE_rng h ⟨g1.b0, g1.b7⟩ ⟨g1.c0, g1.c7⟩)
theorem succ_self : ∀ {l : List Ev} {w : Wd} {t n c : Int}, 0 ≤ c → c ≤ 7 → VParts w → PossL w t l → (∀ e ∈ l, ¬ (e.kind = 2 ∧ e.a = c)) → bitM (worldA w l).alive c = true → succN n c l = c
  | [], _, _, _, _, _, _, _, _, _, _ => rfl
  | e :: l, w, t, n, c, c0, c1, hv, ⟨g1, g2, g3⟩, hns, ha => by
    have hn1 := hns e List.mem_cons_self
    have ih := succ_self (l := l) (n := n) c0 c1 (step_valid g2) g3 (fun x hx => hns x (List.mem_cons_of_mem _ hx)) ha
    obtain ⟨ho, _, _⟩ := step_facts hv g2
    obtain ⟨hk4, ht, hA, hB, hC, hal⟩ := okE_iff.1 ho
    obtain ⟨a0, a1⟩ := alive_range hv
    have he : succE n c e = c := by
      by_cases hac : e.a = c
      · by_cases h4 : e.kind = 4
        · simp only [succE, hac, h4]; simp
        · exfalso
          have hk2 : e.kind ≠ 2 := fun h => hn1 ⟨h, hac⟩
          obtain ⟨b1, b2⟩ := step_bits hv g2 c0 c1
          rw [if_neg hk2, if_neg h4] at b1
          rw [if_neg hk2] at b2
          have hac2 : bitM w.alive c = true := by rw [has_bit a0 a1 hA.1 hA.2, hac] at hal; exact hal
          have := dead_stays (l := l) c0 c1 (step_valid g2) g3 (by rw [b2]; exact alive_is_ever hv c0 c1 hac2) (by rw [b1]; simp [hac])
          rw [show worldA w (e :: l) = worldA (stepM w e).1 l from rfl, this] at ha
          cases ha
      · simp only [succE, if_pos hac]
    simp only [succN, List.foldl_cons] at ih ⊢
    rw [he]; exact ih
/-! ### who holds a number -/
theorem step_hold {w : Wd} {e : Ev} (hv : VParts w) (h : (stepM w e).2 = 0) {n : Int} (n0 : 0 ≤ n) (n1 : n < 100000000) :
    hd n (stepM w e).1.blocks = if hd n w.blocks = -1 then -1 else succE n (hd n w.blocks) e := by
  obtain ⟨ho, hd', hv'⟩ := step_facts hv h
  obtain ⟨hk4, ht, hA, hB, hC, hal⟩ := okE_iff.1 ho
  by_cases hk : e.kind = 4
  · rw [step_up hv h hk]
    dsimp only
    split
    · assumption
    · simp only [succE, hk]; simp
  · have he := step_eff' hv h hk
    rw [he.hold n n0 n1]
    by_cases h1 : hd n w.blocks = -1
    · rw [if_neg (by omega), if_pos h1]; exact h1
    · rw [if_neg h1]
      by_cases h2 : hd n w.blocks = e.a
      · rw [if_pos h2, h2]
        simp only [succE, subE, inM, ne_eq, not_true_eq_false, if_false, Bool.and_eq_true, decide_eq_true_eq]
        by_cases k1 : e.kind = 1
        · simp [k1]
        · simp only [k1, if_false]
          by_cases hin : inV e n
          · have hin' : e.f ≤ n ∧ n < e.to := hin
            rw [if_pos (show ¬ e.kind = 4 ∧ e.f ≤ n ∧ n ≤ e.to - 1 from ⟨hk, by omega, by omega⟩)]
            split <;> simp [hin]
          · have hin' : ¬(e.f ≤ n ∧ n < e.to) := hin
            rw [if_neg (show ¬ (¬ e.kind = 4 ∧ e.f ≤ n ∧ n ≤ e.to - 1) from fun h => hin' (by omega))]
            by_cases k2 : e.kind = 2
            · rw [if_pos k2, if_neg hin, if_neg (by omega)]
            · rw [if_neg k2, if_neg hin, if_pos (by omega)]
      · rw [if_neg h2]; simp only [succE]; rw [if_pos (fun h => h2 h.symm)]
theorem world_hold : ∀ {l : List Ev} {w : Wd} {t n : Int}, 0 ≤ n → n < 100000000 → VParts w → PossL w t l → hd n (worldA w l).blocks = if hd n w.blocks = -1 then -1 else succN n (hd n w.blocks) l
  | [], w, t, n, n0, n1, hv, _ => by
    show hd n w.blocks = _
    split
    · assumption
    · rfl
  | e :: l, w, t, n, n0, n1, hv, ⟨g1, g2, g3⟩ => by
    have ih := world_hold (l := l) n0 n1 (step_valid g2) g3
    have hs := step_hold hv g2 n0 n1
    have hr := hd_rng (m := n) (valid_can (step_valid g2).blk)
    have hr0 := hd_rng (m := n) (valid_can hv.blk)
    show hd n (worldA (stepM w e).1 l).blocks = _
    rw [ih]
    by_cases h1 : hd n w.blocks = -1
    · rw [if_pos h1] at hs ⊢; rw [if_pos hs]
    · rw [if_neg h1] at hs ⊢
      have hp := succE_rng (n := n) (c := hd n w.blocks) (e := e) (by omega) ⟨g1.b0, g1.b7⟩ ⟨g1.c0, g1.c7⟩
      rw [if_neg (by rw [hs]; omega), hs]
      simp only [succN, List.foldl_cons]
/-! ### events after a time -/
def afterM (l : List Ev) (t : Int) : List Ev := l.filter fun e => decide (e.t > t)
theorem poss_low : ∀ {l : List Ev} {w : Wd} {t : Int}, PossL w t l → ∀ e ∈ l, t ≤ e.t
  | [], _, _, _, e, he => by cases he
  | x :: l, w, t, ⟨g1, g2, g3⟩, e, he => by
    have := g1.t0
    rcases List.mem_cons.1 he with rfl | he
    · exact this
    · have := poss_low (l := l) g3 e he; omega
theorem until_after : ∀ {l : List Ev} {w : Wd} {t : Int} (s : Int), PossL w t l → untilM l s ++ afterM l s = l
  | [], _, _, _, _ => rfl
  | x :: l, w, t, s, ⟨g1, g2, g3⟩ => by
    have ih := until_after (l := l) s g3
    simp only [untilM, afterM, List.takeWhile_cons, List.filter_cons] at ih ⊢
    by_cases h : x.t ≤ s
    · rw [if_pos (by simpa using h), if_neg (by simp; omega), List.cons_append, ih]
    · rw [if_neg (by simpa using h), if_pos (by simp; omega), List.nil_append]
      congr 1
      rw [List.filter_eq_self]
      intro e he
      have := poss_low (l := l) g3 e he
      simp; omega
theorem poss_append : ∀ {a b : List Ev} {w : Wd} {t : Int}, PossL w t (a ++ b) → PossL w t a ∧ PossL (worldA w a) (lastT t a) b
  | [], b, w, t, h => ⟨trivial, h⟩
  | e :: a, b, w, t, ⟨g1, g2, g3⟩ => by
    obtain ⟨h1, h2⟩ := poss_append (a := a) g3
    exact ⟨⟨g1, g2, h1⟩, h2⟩
theorem world_append (w : Wd) (a b : List Ev) : worldA w (a ++ b) = worldA (worldA w a) b := by simp [worldA]
theorem until_until {l : List Ev} {w : Wd} {t s s' : Int} (h : PossL w t l) (hs : s ≤ s') : untilM l s' = untilM l s ++ untilM (afterM l s) s' := by
  have e := until_after s h
  have hall : ∀ x ∈ untilM l s, decide (x.t ≤ s') = true := fun x hx => by
    have h1 : decide (x.t ≤ s) = true := by
      unfold untilM at hx
      exact List.all_eq_true.1 List.all_takeWhile x hx
    simp at h1 ⊢; omega
  conv => lhs; rw [← e]
  unfold untilM at hall ⊢
  rw [List.takeWhile_append_of_pos hall]
end Go.Proofs.YtnoicbajhlpndaaGreat
