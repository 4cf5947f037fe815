/- The walk of the law MergeLevels. -/
import Derived.Test.YtnoicbajhlpndaaGreatTimeA
namespace Go.Proofs.YtnoicbajhlpndaaGreat
open Go Go.RowKit Go.Shelf Hp
set_option maxRecDepth 10000
set_option maxHeartbeats 1000000
set_option linter.unusedVariables false
set_option linter.unusedSimpArgs false
attribute [local irreducible] WP WPs FnX IterX YdX RetP PanP Ch Back Join
theorem ok3_nil : ok3 [] := fun k hk => by simp at hk

end Go.Proofs.YtnoicbajhlpndaaGreat
/- What events do, one after the other: who is alive, who succeeds whom, who holds a number. -/
namespace Go.Proofs.YtnoicbajhlpndaaGreat
open Go Go.RowKit Go.Shelf Hp
set_option maxRecDepth 10000
set_option maxHeartbeats 1000000
set_option linter.unusedVariables false
set_option linter.unusedSimpArgs false
attribute [local irreducible] WP WPs FnX IterX YdX RetP PanP Ch Back Join
theorem bits_all3 : ∀ s : Fin 256, ∀ i j : Fin 8, bitM (bits64 .andNot (s.val : Int) (1 * 2 ^ i.val)) (j.val : Int) = (bitM (s.val : Int) (j.val : Int) && !decide (i = j)) := by decide +kernel
theorem bit_not {s i j : Int} (s0 : 0 ≤ s) (s1 : s ≤ 255) (i0 : 0 ≤ i) (i1 : i ≤ 7) (j0 : 0 ≤ j) (j1 : j ≤ 7) : bitM (bits64 .andNot s (1 * 2 ^ i.toNat)) j = (bitM s j && !decide (i = j)) := by
  have h := bits_all3 ⟨s.toNat, by omega⟩ ⟨i.toNat, by omega⟩ ⟨j.toNat, by omega⟩
  dsimp only at h
  rw [Int.toNat_of_nonneg s0, Int.toNat_of_nonneg j0] at h
  rw [h]
  congr 2
  simp only [Fin.mk.injEq, decide_eq_decide]
  omega
theorem step_facts {w : Wd} {e : Ev} (hv : VParts w) (h : (stepM w e).2 = 0) : okE w e = true ∧ doW w e = some (stepM w e).1 ∧ VParts (stepM w e).1 := by
  have hs := stepW_of hv h
  unfold stepW at hs
  split at hs
  · cases hs
  · rename_i ho
    cases hd : doW w e with
    | none => rw [hd] at hs; cases hs
    | some w' =>
      rw [hd] at hs
      dsimp only at hs
      split at hs
      · cases hs; exact ⟨by simpa using ho, rfl, step_valid h⟩
      · cases hs
theorem step_eff' {w : Wd} {e : Ev} (hv : VParts w) (h : (stepM w e).2 = 0) (hk : e.kind ≠ 4) : Eff w (stepM w e).1 e := by
  obtain ⟨ho, hd, hv'⟩ := step_facts hv h
  obtain ⟨hk4, ht, hA, hB, hC, hal⟩ := okE_iff.1 ho
  have : e.kind = 1 ∨ e.kind = 2 ∨ e.kind = 3 := by omega
  rcases this with k | k | k
  · exact merge_eff k hv hv' (by rw [← doW1 k]; exact hd)
  · exact split_eff k hB.1 hv hv' (by rw [← doW2 k]; exact hd)
  · exact wind_eff k hB.1 hv hv' (by rw [← doW3 k]; exact hd)
theorem step_up {w : Wd} {e : Ev} (hv : VParts w) (h : (stepM w e).2 = 0) (hk : e.kind = 4) : (stepM w e).1 = { w with lev := w.lev.set e.a.toNat (w.lev.getD e.a.toNat 0 + 1) } := by
  obtain ⟨ho, hd, hv'⟩ := step_facts hv h
  rw [doW4 hk] at hd
  unfold upW at hd
  split at hd
  · cases hd
  · split at hd
    · cases hd
    · exact (Option.some.inj hd).symm
theorem step_new {w : Wd} {e : Ev} (hv : VParts w) (h : (stepM w e).2 = 0) (hk : e.kind = 2) : hasC w.ever e.b = false := by
  obtain ⟨ho, hd, hv'⟩ := step_facts hv h
  rw [doW2 hk] at hd
  unfold splitW at hd
  split at hd
  · cases hd
  · rename_i hc
    simp only [Bool.not_eq_false, Bool.and_eq_true, Bool.not_eq_true'] at hc
    exact hc.2
/-- Who is alive behind an event, and who ever was. -/
theorem step_bits {w : Wd} {e : Ev} (hv : VParts w) (h : (stepM w e).2 = 0) {k : Int} (k0 : 0 ≤ k) (k1 : k ≤ 7) :
    bitM (stepM w e).1.alive k = (if e.kind = 2 then decide (e.b = k) || bitM w.alive k else if e.kind = 4 then bitM w.alive k else bitM w.alive k && !decide (e.a = k)) ∧
    bitM (stepM w e).1.ever k = (if e.kind = 2 then decide (e.b = k) || bitM w.ever k else bitM w.ever k) := by
  obtain ⟨ho, hd, hv'⟩ := step_facts hv h
  obtain ⟨hk4, ht, hA, hB, hC, hal⟩ := okE_iff.1 ho
  obtain ⟨a0, a1⟩ := alive_range hv
  obtain ⟨e0, e1⟩ := ever_rng hv
  by_cases hk : e.kind = 4
  · rw [step_up hv h hk, if_neg (by omega), if_pos hk, if_neg (by omega)]; exact ⟨rfl, rfl⟩
  · have he := step_eff' hv h hk
    rw [he.alive, he.ever]
    by_cases h2 : e.kind = 2
    · simp only [alvE, evrE, h2, if_true]
      exact ⟨bit_or a0 a1 hB.1 hB.2 k0 k1, bit_or e0 e1 hB.1 hB.2 k0 k1⟩
    · simp only [alvE, evrE, h2, hk, if_false]
      exact ⟨bit_not a0 a1 hA.1 hA.2 k0 k1, trivial⟩
/-! ### who was alive -/
theorem dead_stays : ∀ {l : List Ev} {w : Wd} {t : Int} {k : Int}, 0 ≤ k → k ≤ 7 → VParts w → PossL w t l → bitM w.ever k = true → bitM w.alive k = false → bitM (worldA w l).alive k = false
  | [], _, _, _, _, _, _, _, _, h => h
  | e :: l, w, t, k, k0, k1, hv, ⟨g1, g2, g3⟩, he, ha => by
    obtain ⟨b1, b2⟩ := step_bits hv g2 k0 k1
    obtain ⟨ho, _, _⟩ := step_facts hv g2
    obtain ⟨hk4, ht, hA, hB, hC, hal⟩ := okE_iff.1 ho
    obtain ⟨e0, e1⟩ := ever_rng hv
    refine dead_stays (l := l) k0 k1 (step_valid g2) g3 ?_ ?_
    · rw [b2]; split <;> simp [he]
    · rw [b1, ha]
      split
      · rename_i h2
        have := step_new hv g2 h2
        rw [has_bit e0 e1 hB.1 hB.2] at this
        have hne : e.b ≠ k := by rintro rfl; rw [he] at this; cases this
        simp [hne]
      · split <;> simp
theorem ever_stays : ∀ {l : List Ev} {w : Wd} {t : Int} {k : Int}, 0 ≤ k → k ≤ 7 → VParts w → PossL w t l → bitM w.ever k = true → bitM (worldA w l).ever k = true
  | [], _, _, _, _, _, _, _, h => h
  | e :: l, w, t, k, k0, k1, hv, ⟨g1, g2, g3⟩, he => by
    obtain ⟨b1, b2⟩ := step_bits hv g2 k0 k1
    refine ever_stays (l := l) k0 k1 (step_valid g2) g3 ?_
    rw [b2]; split <;> simp [he]
theorem alive_is_ever {w : Wd} (hv : VParts w) {k : Int} (k0 : 0 ≤ k) (k1 : k ≤ 7) (h : bitM w.alive k = true) : bitM w.ever k = true := by
  obtain ⟨a0, a1⟩ := alive_range hv
  obtain ⟨e0, e1⟩ := ever_rng hv
  rw [← has_bit a0 a1 k0 k1] at h
  rw [← has_bit e0 e1 k0 k1]
  exact alive_ever hv k0 k1 h
theorem bits_sub {x y : Int} (x0 : 0 ≤ x) (x1 : x ≤ 255) (y0 : 0 ≤ y) (y1 : y ≤ 255) (h : ∀ k : Int, 0 ≤ k → k ≤ 7 → bitM x k = true → bitM y k = true) : bits64 .andNot x y = 0 := by
  rw [not_sub x0 x1 y0 y1]
  obtain ⟨m, rfl⟩ := Int.eq_ofNat_of_zero_le x0
  obtain ⟨n, rfl⟩ := Int.eq_ofNat_of_zero_le y0
  rw [bits_and_nat (by omega) (by omega)]
  congr 1
  apply Nat.eq_of_testBit_eq
  intro i
  rw [Nat.testBit_and]
  have tb : ∀ (z : Nat) (i : Nat), bitM (z : Int) (i : Int) = z.testBit i := fun z i => by
    rw [Bool.eq_iff_iff, Nat.testBit_eq_decide_div_mod_eq]
    simp only [bitM, Int.toNat_natCast, decide_eq_true_eq]
    rw [show ((2 : Int) ^ i) = ((2 ^ i : Nat) : Int) from by simp, ← Int.natCast_ediv, Int.tmod_eq_emod_of_nonneg (Int.natCast_nonneg (z / 2 ^ i))]
    generalize z / 2 ^ i = q; omega
  by_cases hi : i ≤ 7
  · have := h i (by omega) (by omega)
    rw [tb, tb] at this
    cases hm : m.testBit i with
    | false => rfl
    | true => rw [this hm]; rfl
  · have : m.testBit i = false := Nat.testBit_lt_two_pow (Nat.lt_of_lt_of_le (show m < 2 ^ 8 by omega) (Nat.pow_le_pow_right (by omega) (by omega)))
    rw [this]; rfl
/-! ### successors -/
theorem succE_rng {n c : Int} {e : Ev} (hc : 0 ≤ c ∧ c ≤ 7) (hb : 0 ≤ e.b ∧ e.b ≤ 7) (h3 : 0 ≤ e.c ∧ e.c ≤ 7) : 0 ≤ succE n c e ∧ succE n c e ≤ 7 := by
  unfold succE; (repeat' split) <;> assumption
theorem succN_rng : ∀ {l : List Ev} {w : Wd} {t n c : Int}, PossL w t l → 0 ≤ c ∧ c ≤ 7 → 0 ≤ succN n c l ∧ succN n c l ≤ 7
  | [], _, _, _, _, _, h => h
  | e :: l, w, t, n, c, ⟨g1, g2, g3⟩, h => by
    simp only [succN, List.foldl_cons]
    exact succN_rng (l := l) g3 (succE_rng h ⟨g1.b0, g1.b7⟩ ⟨g1.c0, g1.c7⟩)
theorem succ_self : ∀ {l : List Ev} {w : Wd} {t n c : Int}, 0 ≤ c → c ≤ 7 → VParts w → PossL w t l → (∀ e ∈ l, ¬ (e.kind = 2 ∧ e.a = c)) → bitM (worldA w l).alive c = true → succN n c l = c
  | [], _, _, _, _, _, _, _, _, _, _ => rfl
  | e :: l, w, t, n, c, c0, c1, hv, ⟨g1, g2, g3⟩, hns, ha => by
    have hn1 := hns e List.mem_cons_self
    have ih := succ_self (l := l) (n := n) c0 c1 (step_valid g2) g3 (fun x hx => hns x (List.mem_cons_of_mem _ hx)) ha
    obtain ⟨ho, _, _⟩ := step_facts hv g2
    obtain ⟨hk4, ht, hA, hB, hC, hal⟩ := okE_iff.1 ho
    obtain ⟨a0, a1⟩ := alive_range hv
    have he : succE n c e = c := by
      by_cases hac : e.a = c
      · by_cases h4 : e.kind = 4
        · simp only [succE, hac, h4]; simp
        · exfalso
          have hk2 : e.kind ≠ 2 := fun h => hn1 ⟨h, hac⟩
          obtain ⟨b1, b2⟩ := step_bits hv g2 c0 c1
          rw [if_neg hk2, if_neg h4] at b1
          rw [if_neg hk2] at b2
          have hac2 : bitM w.alive c = true := by rw [has_bit a0 a1 hA.1 hA.2, hac] at hal; exact hal
          have := dead_stays (l := l) c0 c1 (step_valid g2) g3 (by rw [b2]; exact alive_is_ever hv c0 c1 hac2) (by rw [b1]; simp [hac])
          rw [show worldA w (e :: l) = worldA (stepM w e).1 l from rfl, this] at ha
          cases ha
      · simp only [succE, if_pos hac]
    simp only [succN, List.foldl_cons] at ih ⊢
    rw [he]; exact ih
/-! ### who holds a number -/
theorem step_hold {w : Wd} {e : Ev} (hv : VParts w) (h : (stepM w e).2 = 0) {n : Int} (n0 : 0 ≤ n) (n1 : n < 100000000) :
    hd n (stepM w e).1.blocks = if hd n w.blocks = -1 then -1 else succE n (hd n w.blocks) e := by
  obtain ⟨ho, hd', hv'⟩ := step_facts hv h
  obtain ⟨hk4, ht, hA, hB, hC, hal⟩ := okE_iff.1 ho
  by_cases hk : e.kind = 4
  · rw [step_up hv h hk]
    dsimp only
    split
    · assumption
    · simp only [succE, hk]; simp
  · have he := step_eff' hv h hk
    rw [he.hold n n0 n1]
    by_cases h1 : hd n w.blocks = -1
    · rw [if_neg (by omega), if_pos h1]; exact h1
    · rw [if_neg h1]
      by_cases h2 : hd n w.blocks = e.a
      · rw [if_pos h2, h2]
        simp only [succE, subE, inM, ne_eq, not_true_eq_false, if_false, Bool.and_eq_true, decide_eq_true_eq]
        by_cases k1 : e.kind = 1
        · simp [k1]
        · simp only [k1, if_false]
          by_cases hin : inV e n
          · have hin' : e.f ≤ n ∧ n < e.to := hin
            rw [if_pos (show ¬ e.kind = 4 ∧ e.f ≤ n ∧ n ≤ e.to - 1 from ⟨hk, by omega, by omega⟩)]
            split <;> simp [hin]
          · have hin' : ¬(e.f ≤ n ∧ n < e.to) := hin
            rw [if_neg (show ¬ (¬ e.kind = 4 ∧ e.f ≤ n ∧ n ≤ e.to - 1) from fun h => hin' (by omega))]
            by_cases k2 : e.kind = 2
            · rw [if_pos k2, if_neg hin, if_neg (by omega)]
            · rw [if_neg k2, if_neg hin, if_pos (by omega)]
      · rw [if_neg h2]; simp only [succE]; rw [if_pos (fun h => h2 h.symm)]
theorem world_hold : ∀ {l : List Ev} {w : Wd} {t n : Int}, 0 ≤ n → n < 100000000 → VParts w → PossL w t l → hd n (worldA w l).blocks = if hd n w.blocks = -1 then -1 else succN n (hd n w.blocks) l
  | [], w, t, n, n0, n1, hv, _ => by
    show hd n w.blocks = _
    split
    · assumption
    · rfl
  | e :: l, w, t, n, n0, n1, hv, ⟨g1, g2, g3⟩ => by
    have ih := world_hold (l := l) n0 n1 (step_valid g2) g3
    have hs := step_hold hv g2 n0 n1
    have hr := hd_rng (m := n) (valid_can (step_valid g2).blk)
    have hr0 := hd_rng (m := n) (valid_can hv.blk)
    show hd n (worldA (stepM w e).1 l).blocks = _
    rw [ih]
    by_cases h1 : hd n w.blocks = -1
    · rw [if_pos h1] at hs ⊢; rw [if_pos hs]
    · rw [if_neg h1] at hs ⊢
      have hp := succE_rng (n := n) (c := hd n w.blocks) (e := e) (by omega) ⟨g1.b0, g1.b7⟩ ⟨g1.c0, g1.c7⟩
      rw [if_neg (by rw [hs]; omega), hs]
      simp only [succN, List.foldl_cons]
/-! ### events after a time -/
def afterM (l : List Ev) (t : Int) : List Ev := l.filter fun e => decide (e.t > t)
theorem poss_low : ∀ {l : List Ev} {w : Wd} {t : Int}, PossL w t l → ∀ e ∈ l, t ≤ e.t
  | [], _, _, _, e, he => by cases he
  | x :: l, w, t, ⟨g1, g2, g3⟩, e, he => by
    have := g1.t0
    rcases List.mem_cons.1 he with rfl | he
    · exact this
    · have := poss_low (l := l) g3 e he; omega
theorem until_after : ∀ {l : List Ev} {w : Wd} {t : Int} (s : Int), PossL w t l → untilM l s ++ afterM l s = l
  | [], _, _, _, _ => rfl
  | x :: l, w, t, s, ⟨g1, g2, g3⟩ => by
    have ih := until_after (l := l) s g3
    simp only [untilM, afterM, List.takeWhile_cons, List.filter_cons] at ih ⊢
    by_cases h : x.t ≤ s
    · rw [if_pos (by simpa using h), if_neg (by simp; omega), List.cons_append, ih]
    · rw [if_neg (by simpa using h), if_pos (by simp; omega), List.nil_append]
      congr 1
      rw [List.filter_eq_self]
      intro e he
      have := poss_low (l := l) g3 e he
      simp; omega
theorem poss_append : ∀ {a b : List Ev} {w : Wd} {t : Int}, PossL w t (a ++ b) → PossL w t a ∧ PossL (worldA w a) (lastT t a) b
  | [], b, w, t, h => ⟨trivial, h⟩
  | e :: a, b, w, t, ⟨g1, g2, g3⟩ => by
    obtain ⟨h1, h2⟩ := poss_append (a := a) g3
    exact ⟨⟨g1, g2, h1⟩, h2⟩
theorem world_append (w : Wd) (a b : List Ev) : worldA w (a ++ b) = worldA (worldA w a) b := by simp [worldA]
theorem until_until {l : List Ev} {w : Wd} {t s s' : Int} (h : PossL w t l) (hs : s ≤ s') : untilM l s' = untilM l s ++ untilM (afterM l s) s' := by
  have e := until_after s h
  have hall : ∀ x ∈ untilM l s, decide (x.t ≤ s') = true := fun x hx => by
    have h1 : decide (x.t ≤ s) = true := by
      unfold untilM at hx
      exact List.all_eq_true.1 List.all_takeWhile x hx
    simp at h1 ⊢; omega
  conv => lhs; rw [← e]
  unfold untilM at hall ⊢
  rw [List.takeWhile_append_of_pos hall]
end Go.Proofs.YtnoicbajhlpndaaGreat
/- The walk of the law MergeSuccessions. -/
namespace Go.Proofs.YtnoicbajhlpndaaGreat
open Go Go.RowKit Go.Shelf Hp
set_option maxRecDepth 10000
set_option maxHeartbeats 1000000
set_option linter.unusedVariables false
set_option linter.unusedSimpArgs false
attribute [local irreducible] WP WPs FnX IterX YdX RetP PanP Ch Back Join
structure AfI (l : List Ev) (t : Int) where
  k : Nat
  hk : k ≤ l.length
  hn : afterM (l.take k) t = []
structure AfJ (l : List Ev) (t : Int) where
  k : Nat
  ob : Nat
  c : Nat
  es : List (List PV)
  len : Nat
  hk : k ≤ l.length
  he : es = (afterM (l.take k) t).map encV
  hl : len = (afterM (l.take k) t).length
  hne : afterM (l.take k) t ≠ []
  hc : len ≤ c
theorem after_yes {l : List Ev} {t : Int} {k : Nat} (h : k < l.length) (ht : (l.getD k dE).t > t) : afterM (l.take (k + 1)) t = afterM (l.take k) t ++ [l.getD k dE] := by
  rw [List.take_add_one, List.getElem?_eq_getElem h]
  have : l[k] = l.getD k dE := by simp [h]
  simp only [afterM, List.filter_append, Option.toList_some, this, List.filter_cons, List.filter_nil]
  rw [if_pos (by simpa using ht)]
theorem after_no {l : List Ev} {t : Int} {k : Nat} (h : k < l.length) (ht : ¬ (l.getD k dE).t > t) : afterM (l.take (k + 1)) t = afterM (l.take k) t := by
  rw [List.take_add_one, List.getElem?_eq_getElem h]
  have : l[k] = l.getD k dE := by simp [h]
  simp only [afterM, List.filter_append, Option.toList_some, this, List.filter_cons, List.filter_nil]
  rw [if_neg (by simpa using ht), List.append_nil]
theorem after_len (l : List Ev) (t : Int) : (afterM l t).length ≤ l.length := List.length_filter_le _ _
theorem after_len' (l : List Ev) (t : Int) (k : Nat) : (afterM (l.take k) t).length ≤ l.length := Nat.le_trans (after_len _ _) (by simp; omega)

theorem after_spec (l : List Ev) (hlen : l.length ≤ 1000000000) (f : Bool) (t : Int) : Fc Tryz.prog 30 [V (l.map encV) f, I t] [] (fun r h' => (∃ f', r = V ((afterM l t).map encV) f') ∧ h' = []) := by
 refine fnE_intro (N := 28) Tryz.func30 rfl rfl rfl ?_
 intro X
 refine h_seq <| h_region <| o_assign rfl dQ <| o_nil <| h_seq <| h_region <| o_assign rfl dQ <| o_nil <| h_seq <| h_seq <| h_region <| o_assign rfl dQ ?_
 refine o_nil <| h_block <| h_famS (ι := (AfI l t) ⊕ (AfJ l t)) (fun i => match i with | .inl i => [(0, V (l.map encV) f), (1, I t), (5, V [] true), (6, I (i.k : Nat))] | .inr i => [(0, V (l.map encV) f), (1, I t), (5, .os i.ob 8 0 i.len i.c), (6, I (i.k : Nat))]) (fun i => match i with | .inl i => [] | .inr i => (i.ob, .arr 41 8 i.es i.c) :: []) (fun i => match i with | .inl i => l.length - i.k | .inr i => l.length - i.k) (.inl ⟨0, Nat.zero_le _, rfl⟩) (.refl _) (subT.cons rfl (subT.cons rfl (subT.cons rfl (subT.cons rfl subT.nil)))) ?_
 rintro (⟨k, hk, hn⟩ | ⟨k, ob, c, es, len, hk, he, hl, hne, hc⟩)
 ·
  dsimp only
  have hal := after_len' l t k
  by_cases hlt : k < l.length
  ·
   refine h_seq <| h_seq <| h_region <| o_move rfl dQ <| o_move rfl dQ <| o_len rfl dQ <| o_cmp rfl rfl rfl dQ <| o_nil <| h_condt rfl (by simp; omega) ?_
   refine h_skip <| h_seq <| h_block <| h_seq <| h_region <| o_move rfl dQ <| o_move rfl dQ <| o_idxv rfl rfl (by omega) (eltV (by simpa using hlt)) rfl dQ ?_
   refine o_faddrv rfl rfl dQ rfl dQ <| o_loadv rfl rfl dQ <| o_move rfl dQ <| o_cmp rfl rfl rfl dQ <| o_nil <| h_cond rfl (fun c3 => ?_) (fun c3 => ?_)
   ·
    refine h_region <| o_move rfl dQ <| o_move rfl dQ <| o_move rfl dQ <| o_idxv rfl rfl (by omega) (eltV (by simpa using hlt)) rfl dQ ?_
    refine o_loadv rfl rfl dQ <| o_buildSlicep rfl (by rfl) (by rfl) (by rfl) (by rfl) dQ ?_
    refine o_appendv rfl rfl (Src.v _ _) (okB_one rfl) (by simp [chunk]) (by rw [chunk_length]; omega) (by simp [chunk_length]; try omega) dQ fun x4 c5 hc6 => ?_
    refine o_assign rfl dQ <| o_nil <| h_region <| o_move rfl dQ <| o_add rfl rfl (by unfold in64; (try dsimp only); omega) dQ ?_
    refine o_assign rfl dQ <| o_nil ?_
    have hx := c3
    simp only [decide_eq_true_eq, decide_eq_false_iff_not, Int.toNat_natCast] at hx
    have hq := after_yes hlt hx
    refine back rfl (.inr ⟨k + 1, x4, c5, _, _, hlt, (by rw [hq, hn]; simp [encV, chunk]), (by rw [hq, hn]; simp [chunk_length]), by rw [hq]; simp, (by simpa [chunk_length] using hc6)⟩) (by dsimp only; omega) (.cons_cons _ (.refl _)) (subT.cons rfl (subT.cons rfl (subT.cons rfl (subT.cons rfl subT.nil))))
   ·
    refine h_skip <| h_region <| o_move rfl dQ <| o_add rfl rfl (by unfold in64; (try dsimp only); omega) dQ ?_
    refine o_assign rfl dQ <| o_nil ?_
    have hx := c3
    simp only [decide_eq_true_eq, decide_eq_false_iff_not, Int.toNat_natCast] at hx
    have hq := after_no hlt hx
    refine back rfl (.inl ⟨k + 1, hlt, by rw [hq]; exact hn⟩) (by dsimp only; omega) (.refl _) (subT.cons rfl (subT.cons rfl (subT.cons rfl (subT.cons rfl subT.nil))))
  ·
   obtain rfl : k = l.length := by omega
   refine h_seq <| h_seq <| h_region <| o_move rfl dQ <| o_move rfl dQ <| o_len rfl dQ <| o_cmp rfl rfl rfl dQ <| o_nil <| h_condf rfl (by simp <;> omega) ?_
   refine h_exit <| h_seq <| h_region <| o_move rfl dQ <| o_assign rfl dQ <| o_nil <| h_ret ?_
   rw [List.take_length] at *
   exact ret1 rfl ⟨_, rfl, ⟨true, by rw [hn]; rfl⟩, rfl⟩
 ·
  dsimp only
  subst he; subst hl
  have hal := after_len' l t k
  by_cases hlt : k < l.length
  ·
   refine h_seq <| h_seq <| h_region <| o_move rfl dQ <| o_move rfl dQ <| o_len rfl dQ <| o_cmp rfl rfl rfl dQ <| o_nil <| h_condt rfl (by simp; omega) ?_
   refine h_skip <| h_seq <| h_block <| h_seq <| h_region <| o_move rfl dQ <| o_move rfl dQ <| o_idxv rfl rfl (by omega) (eltV (by simpa using hlt)) rfl dQ ?_
   refine o_faddrv rfl rfl dQ rfl dQ <| o_loadv rfl rfl dQ <| o_move rfl dQ <| o_cmp rfl rfl rfl dQ <| o_nil <| h_cond rfl (fun c10 => ?_) (fun c10 => ?_)
   ·
    refine h_region <| o_move rfl dQ <| o_move rfl dQ <| o_move rfl dQ <| o_idxv rfl rfl (by omega) (eltV (by simpa using hlt)) rfl dQ ?_
    refine o_loadv rfl rfl dQ <| o_buildSlicep rfl (by rfl) (by rfl) (by rfl) (by rfl) dQ ?_
    refine o_append 0 rfl rfl rfl (Src.v _ _) (okB_one rfl) (by simp) (by simp [chunk_length]; try omega) dQ fun x11 c12 hc13 => ?_
    refine o_assign rfl dQ <| o_nil <| h_region <| o_move rfl dQ <| o_add rfl rfl (by unfold in64; (try dsimp only); omega) dQ ?_
    refine o_assign rfl dQ <| o_nil ?_
    have hx := c10
    simp only [decide_eq_true_eq, decide_eq_false_iff_not, Int.toNat_natCast] at hx
    have hq := after_yes hlt hx
    refine back rfl (.inr ⟨k + 1, x11, c12, _, _, hlt, (by rw [hq]; simp [encV, chunk]), (by rw [hq]; simp [chunk_length]), by rw [hq]; simp, (by simpa [chunk_length] using hc13)⟩) (by dsimp only; omega) (.cons_cons _ (.refl _)) (subT.cons rfl (subT.cons rfl (subT.cons rfl (subT.cons rfl subT.nil))))
   ·
    refine h_skip <| h_region <| o_move rfl dQ <| o_add rfl rfl (by unfold in64; (try dsimp only); omega) dQ ?_
    refine o_assign rfl dQ <| o_nil ?_
    have hx := c10
    simp only [decide_eq_true_eq, decide_eq_false_iff_not, Int.toNat_natCast] at hx
    have hq := after_no hlt hx
    refine back rfl (.inr ⟨k + 1, ob, c, _, _, hlt, by rw [hq], by rw [hq], by rw [hq]; exact hne, hc⟩) (by dsimp only; omega) (.cons_cons _ (.refl _)) (subT.cons rfl (subT.cons rfl (subT.cons rfl (subT.cons rfl subT.nil))))
  ·
   obtain rfl : k = l.length := by omega
   refine h_seq <| h_seq <| h_region <| o_move rfl dQ <| o_move rfl dQ <| o_len rfl dQ <| o_cmp rfl rfl rfl dQ <| o_nil <| h_condf rfl (by simp <;> omega) ?_
   refine h_exit <| h_seq <| h_region <| o_move rfl dQ <| o_assign rfl dQ <| o_nil <| h_ret ?_
   rw [List.take_length] at *
   exact retF (.cons (resT rfl) .nil) (frz_os List.mem_cons_self (by simp) hc) ⟨_, rfl, ⟨false, rfl⟩, rfl⟩

def splAt (l : List Ev) (c : Int) (k : Nat) : Bool := decide ((l.getD k dE).kind = 2) && decide ((l.getD k dE).a = c)
def splTo (l : List Ev) (c : Int) : Nat → Bool
  | 0 => false
  | k + 1 => splTo l c k || splAt l c k
theorem spl_all {l : List Ev} {c : Int} : ∀ {k : Nat}, splTo l c k = false → ∀ j, j < k → splAt l c j = false
  | 0, _, j, hj => by omega
  | k + 1, h, j, hj => by
    simp only [splTo, Bool.or_eq_false_iff] at h
    rcases Nat.lt_succ_iff_lt_or_eq.1 hj with h1 | h1
    · exact spl_all h.1 j h1
    · subst h1; exact h.2
theorem spl_mem {l : List Ev} {c : Int} (h : splTo l c l.length = false) : ∀ e ∈ l, ¬ (e.kind = 2 ∧ e.a = c) := fun e he => by
  obtain ⟨j, hj, rfl⟩ := List.mem_iff_getElem.1 he
  have := spl_all h j hj
  simp only [splAt, List.getD_eq_getElem?_getD, List.getElem?_eq_getElem hj, Option.getD_some, Bool.and_eq_false_iff, decide_eq_false_iff_not] at this
  rintro ⟨h1, h2⟩
  rcases this with h | h
  · exact h h1
  · exact h h2

theorem succM_of {w : Wd} {l : List Ev} {t s c n : Int} (hv : VParts w) (h8 : l.length ≤ 20) (h : PossL w t l) (h0 : 0 ≤ s) (h1 : s ≤ 20000000) (c0 : 0 ≤ c) (c1 : c ≤ 7) (n0 : 0 ≤ n) (n1 : n ≤ 99999999) : succM w l c n s = (succN n c (untilM l s), 0) := by
  unfold succM
  rw [if_neg (by simp [possM_of hv h8 h h0 h1, carOk_iff.2 ⟨c0, c1⟩, inM]; omega)]

theorem mergeSuccessions_spec (a0 a1 a2 : Int) (ha0 : in64 a0) (ha1 : in64 a1) (ha2 : in64 a2) (x : List T3) (hxl : x.length ≤ 1000000000) (hx : ok3 x) (fx : Bool) (z : List T7) (hzl : z.length ≤ 1000000000) (hz : ok7 z) (fz : Bool) (a3 a4 a5 a6 : Int) (ha3 : in64 a3) (ha4 : in64 a4) (ha5 : in64 a5) (ha6 : in64 a6) : Fn1 Tryz.prog 4 [.agg [I a0, I a1, I a2], V (x.map enc3) fx, V (z.map enc7) fz, I a3, I a4, I a5, I a6] (B true) := by
 refine fnE_intro (N := 194) Tryz.func4 rfl rfl rfl ?_
 intro X
 refine h_seq <| h_region <| o_box rfl rfl dQ fun x15 => o_assign rfl dQ <| o_nil <| h_seq <| h_region <| o_call1 rfl rfl EntC.out dQ sane_spec <| o_assign rfl dQ <| o_nil <| h_seq <| h_seq ?_
 refine h_region <| o_move rfl dQ <| o_not rfl dQ <| o_nil <| h_condf rfl rfl <| h_skip <| h_seq <| h_region <| o_load 0 rfl rfl rfl rfl dQ <| o_move rfl dQ <| o_callN rfl rfl EntC.out dQ (made_spec a0 a1 a2 ha0 ha1 ha2 x [] hxl (by simp) hx ok3_nil fx true) fun v h' hr => ?_
 obtain ⟨⟨ds, w1, w2, w3, w4, rfl, hdl, hgd, hlk⟩, rfl⟩ := hr
 obtain ⟨hmv, hmb, hmm, hma⟩ := made_valid a0 a1 x a2 ds hdl hgd
 obtain ⟨w, hw⟩ : ∃ w, w = madeW a0 a1 x a2 ds := ⟨_, rfl⟩
 rw [← hw] at hmv hmb hmm ⊢
 refine o_move rfl dQ <| o_extract rfl rfl dQ <| o_extract rfl rfl dQ <| o_alloc dQ fun x17 => ?_
 refine o_store 0 rfl rfl rfl rfl rfl rfl <| o_assign rfl dQ <| o_nil <| h_seq <| h_region <| o_load 0 rfl rfl rfl rfl dQ <| o_move rfl dQ <| o_callN rfl rfl EntC.out dQ (events42_spec w hmv w1 w2 w3 z hzl hz fz) fun v h' hr => ?_
 obtain ⟨⟨l, fl, rfl, hl8, hps⟩, rfl⟩ := hr
 refine o_assign rfl dQ <| o_nil <| h_seq <| h_region <| o_move rfl dQ ?_
 refine o_call1 rfl rfl EntC.out dQ (pickL_spec _ _ (by first | exact ha3 | exact ha4 | exact ha5 | exact ha6) dQ) ?_
 refine o_move rfl dQ ?_
 refine o_call1 rfl rfl EntC.out dQ (pickL_spec _ _ (by first | exact ha3 | exact ha4 | exact ha5 | exact ha6) dQ) ?_
 refine o_min rfl rfl dQ <| o_assign rfl dQ <| o_nil <| h_seq <| h_region <| o_move rfl dQ ?_
 refine o_call1 rfl rfl EntC.out dQ (pickL_spec _ _ (by first | exact ha3 | exact ha4 | exact ha5 | exact ha6) dQ) ?_
 refine o_move rfl dQ ?_
 refine o_call1 rfl rfl EntC.out dQ (pickL_spec _ _ (by first | exact ha3 | exact ha4 | exact ha5 | exact ha6) dQ) ?_
 refine o_max rfl rfl dQ <| o_assign rfl dQ <| o_nil <| h_seq <| h_region <| o_move rfl dQ ?_
 refine o_call1 rfl rfl EntC.out dQ (pickL_spec _ _ (by first | exact ha3 | exact ha4 | exact ha5 | exact ha6) dQ) ?_
 refine o_assign rfl dQ <| o_nil <| h_seq <| h_region <| o_move rfl dQ ?_
 refine o_call1 rfl rfl EntC.out dQ (pickL_spec _ _ (by first | exact ha3 | exact ha4 | exact ha5 | exact ha6) dQ) ?_
 refine o_assign rfl dQ <| o_nil ?_
 have pc := pickM_range (c := a3) (n := 8) (by omega)
 have pn := pickM_range (c := a4) (n := 61) (by omega)
 have p5 := pickM_range (c := a5) (n := 40) (by omega)
 have p6 := pickM_range (c := a6) (n := 40) (by omega)
 obtain ⟨c, hc⟩ : ∃ c, c = pickM a3 8 := ⟨_, rfl⟩
 obtain ⟨n, hn⟩ : ∃ n, n = pickM a4 61 := ⟨_, rfl⟩
 obtain ⟨s, hs⟩ : ∃ s, s = min (pickM a5 40) (pickM a6 40) := ⟨_, rfl⟩
 obtain ⟨s2, hs2⟩ : ∃ s2, s2 = max (pickM a5 40) (pickM a6 40) := ⟨_, rfl⟩
 rw [← hc, ← hn, ← hs, ← hs2]
 rw [← hc] at pc
 rw [← hn] at pn
 have hss : s ≤ s2 := by omega
 have hs0 : 0 ≤ s := by omega
 have hs29 : s2 ≤ 39 := by omega
 have hat1 := atMW_of hmv (by omega) hps (s := s) hs0 (by omega)
 have hat2 := atMW_of hmv (by omega) hps (s := s2) (by omega) (by omega)
 have pu := poss_until (s := s) hps
 have hsu1 : succM w l c n s = (succN n c (untilM l s), 0) := succM_of hmv (by omega) hps hs0 (by omega) pc.1 (by omega) pn.1 (by omega)
 have hsu2 : succM w l c n s2 = (succN n c (untilM l s2), 0) := succM_of hmv (by omega) hps (by omega) (by omega) pc.1 (by omega) pn.1 (by omega)
 have hua := until_after s hps
 have hpa := (poss_append (a := untilM l s) (b := afterM l s) (by rw [hua]; exact hps)).2
 have hal := after_len l s
 have huv := worldA_valid hmv pu
 have prg := succN_rng (n := n) (c := c) pu ⟨pc.1, by omega⟩
 have hsu3 : succM (worldA w (untilM l s)) (afterM l s) (succN n c (untilM l s)) n s2 = (succN n c (untilM l s2), 0) := by rw [succM_of huv (by omega) hpa (by omega) (by omega) prg.1 prg.2 pn.1 (by omega), until_until hps hss]; simp only [succN, List.foldl_append]
 have hv2 := worldA_valid hmv (poss_until (s := s2) hps)
 have hwv : worldA w (untilM l s2) = worldA (worldA w (untilM l s)) (untilM (afterM l s) s2) := by rw [until_until hps hss, world_append]
 have hpa2 := poss_until (s := s2) hpa
 have hev : bits64 .andNot (worldA w (untilM l s)).ever (worldA w (untilM l s2)).ever = 0 := bits_sub (ever_rng huv).1 (ever_rng huv).2 (ever_rng hv2).1 (ever_rng hv2).2 fun k k0 k1 h => by rw [hwv]; exact ever_stays k0 k1 huv hpa2 h
 have hdead : ∀ k : Int, 0 ≤ k → k ≤ 7 → bitM (worldA w (untilM l s)).ever k = true → bitM (worldA w (untilM l s)).alive k = false → bitM (worldA w (untilM l s2)).alive k = false := fun k k0 k1 h1 h2 => by rw [hwv]; exact dead_stays k0 k1 huv hpa2 h1 h2
 have hself : (∀ e ∈ l, ¬ (e.kind = 2 ∧ e.a = c)) → bitM (worldA w (untilM l s2)).alive c = true → succN n c (untilM l s2) = c := fun h1 h2 => succ_self pc.1 (by omega) hmv (poss_until (s := s2) hps) (fun e he => h1 e (until_mem he)) h2
 refine h_seq <| h_region <| o_load 0 rfl rfl rfl rfl dQ <| o_move rfl dQ <| o_move rfl dQ <| o_call1 rfl rfl EntC.out dQ (atF_spec w l s (by omega) w1 w2 w3 fl) <| o_move rfl dQ <| o_extract rfl rfl dQ <| o_extract rfl rfl dQ <| o_alloc dQ fun x18 => ?_
 refine o_store 0 rfl rfl rfl rfl rfl rfl <| o_assign rfl dQ <| o_nil ?_
 rw [hat1]
 dsimp only
 refine h_seq <| h_region <| o_load 1 rfl rfl rfl rfl dQ <| o_move rfl dQ <| o_move rfl dQ <| o_call1 rfl rfl EntC.out dQ (atF_spec w l s2 (by omega) w1 w2 w3 fl) <| o_move rfl dQ <| o_extract rfl rfl dQ <| o_extract rfl rfl dQ <| o_alloc dQ fun x19 => ?_
 refine o_store 0 rfl rfl rfl rfl rfl rfl <| o_assign rfl dQ <| o_nil ?_
 rw [hat2]
 dsimp only
 refine h_seq <| h_region <| o_load 2 rfl rfl rfl rfl dQ <| o_move rfl dQ <| o_move rfl dQ <| o_move rfl dQ <| o_move rfl dQ <| o_call1 rfl rfl EntC.out dQ (succ_spec w l (by omega) _ _ _ _ c n s) <| o_move rfl dQ <| o_extract rfl rfl dQ <| o_extract rfl rfl dQ <| o_assign rfl dQ ?_
 refine o_assign rfl dQ <| o_nil ?_
 rw [hsu1]
 dsimp only
 refine h_seq <| h_region <| o_load 2 rfl rfl rfl rfl dQ <| o_move rfl dQ <| o_move rfl dQ <| o_move rfl dQ <| o_move rfl dQ <| o_call1 rfl rfl EntC.out dQ (succ_spec w l (by omega) _ _ _ _ c n s2) <| o_move rfl dQ <| o_extract rfl rfl dQ <| o_extract rfl rfl dQ <| o_assign rfl dQ ?_
 refine o_assign rfl dQ <| o_nil ?_
 rw [hsu2]
 dsimp only
 refine h_seq <| h_draw _ (List.nil_sublist _) [(0, .val), (1, .flo), (2, .flo), (4, .flo), (5, .flo), (6, .flo), (3, .new), (7, .flo), (8, .flo), (9, .flo), (10, .flo), (11, .flo), (12, .flo)] mixed (by kernel_rfl) <| c_val rfl rfl (fun _ _ _ _ jj => o_load 1 rfl rfl rfl rfl dQ jj) <| c_flo rfl rfl (fun _ _ _ _ jj => o_move rfl dQ jj) <| c_flo rfl rfl (fun _ _ _ _ jj => o_move rfl dQ jj) <| c_flo rfl rfl (fun _ _ _ _ jj => o_move rfl dQ jj) <| c_flo rfl rfl (fun _ _ _ _ jj => o_move rfl dQ jj) <| c_flo rfl rfl (fun _ _ _ _ jj => o_move rfl dQ jj) <| c_newG (ι := Bool) (fun f => V ((afterM l s).map encV) f) (fun _ => []) rfl rfl (fun X r Q ds k => o_callN rfl rfl EntC.out dQ (after_spec l (by omega) fl s) fun v h' hr => by obtain ⟨⟨f', rfl⟩, rfl⟩ := hr; exact k f') fun ff => c_flo rfl rfl (fun _ _ _ _ jj => o_call1 rfl rfl EntC.out dQ (succ_spec (worldA w (untilM l s)) (afterM l s) (by omega) _ _ _ _ (succN n c (untilM l s)) n s2) jj) <| c_flo rfl rfl (fun _ _ _ _ jj => o_move rfl dQ jj) <| c_flo rfl rfl (fun _ _ _ _ jj => o_extract rfl rfl dQ jj) ?_
 refine c_flo rfl rfl (fun _ _ _ _ jj => o_extract rfl rfl dQ jj) <| c_flo rfl rfl (fun _ _ _ _ jj => o_assign rfl dQ jj) <| c_flo rfl rfl (fun _ _ _ _ jj => o_assign rfl dQ jj) <| c_nil ?_
 rw [hsu3]
 dsimp only
 refine h_seq <| h_seq <| h_region <| o_move rfl dQ <| o_cmp rfl rfl rfl dQ <| o_move rfl dQ <| o_guardy rfl rfl dQ dQ <| o_move rfl dQ <| o_guardy rfl rfl dQ dQ <| o_cmp rfl rfl rfl dQ <| o_pickf rfl dQ rfl dQ <| o_move rfl dQ ?_
 refine o_guardy rfl rfl dQ dQ <| o_move rfl dQ <| o_guardy rfl rfl dQ dQ <| o_cmp rfl rfl rfl dQ <| o_pickf rfl dQ rfl dQ <| o_move rfl dQ <| o_guardy rfl rfl dQ dQ <| o_move rfl dQ <| o_guardy rfl rfl dQ dQ <| o_cmp rfl rfl rfl dQ <| o_pickf rfl dQ rfl dQ <| o_move rfl dQ ?_
 refine o_guardy rfl rfl dQ dQ <| o_move rfl dQ <| o_guardy rfl rfl dQ dQ <| o_cmp rfl rfl rfl dQ <| o_pickf rfl dQ rfl dQ <| o_move rfl dQ <| o_guardy rfl rfl dQ dQ <| o_move rfl dQ <| o_guardy rfl rfl dQ dQ <| o_move rfl dQ <| o_guardy rfl rfl dQ dQ <| o_cmp rfl rfl rfl dQ ?_
 refine o_pickf rfl dQ rfl dQ <| o_move rfl dQ <| o_guardy rfl rfl (by simp) dQ ?_
 refine o_faddr rfl rfl dQ dQ <| o_guardy rfl rfl (by simp) dQ ?_
 refine o_load 1 rfl rfl rfl rfl dQ <| o_guardy rfl rfl (by simp) dQ ?_
 refine o_faddr rfl rfl dQ dQ <| o_guardy rfl rfl (by simp) dQ ?_
 refine o_load 0 rfl rfl rfl rfl dQ <| o_guardy rfl rfl (by simp) dQ ?_
 refine o_bits dQ rfl rfl dQ <| o_guardy rfl rfl (by simp) dQ ?_
 refine o_cmp rfl rfl rfl dQ <| o_pickf rfl (by simp) rfl dQ ?_
 refine o_nil <| h_condf rfl (by rw [hev]; decide) <| h_skip <| h_seq <| h_seq <| h_region <| o_assign rfl dQ <| o_nil <| h_block <| h_famS (ι := {q : Nat // q ≤ 8}) (fun i => [(18, V (l.map encV) fl), (21, I c), (23, .ptr x18 0), (25, .ptr x19 0), (29, I (succN n c (untilM l s2))), (33, I (i.1 : Nat))]) (fun i => (x19, .box 32 (cellsW (worldA w (untilM l s2)) false false false)) :: (x18, .box 32 (cellsW (worldA w (untilM l s)) false false false)) :: []) (fun i => 8 - i.1) ⟨0, Nat.zero_le _⟩ (.cons_cons _ (.cons_cons _ (.cons _ (.cons _ (.refl _))))) (subT.cons rfl (subT.cons rfl (subT.cons rfl (subT.cons rfl (subT.cons rfl (subT.cons rfl subT.nil)))))) ?_
 rintro ⟨q, hq⟩
 dsimp only
 by_cases hlt : q < 8
 ·
  have hdq := hdead (q : Int) (by omega) (by omega)
  refine h_seq <| h_seq <| h_region <| o_move rfl dQ <| o_cmp rfl rfl rfl dQ <| o_nil <| h_condt rfl (by simp; omega) ?_
  refine h_skip <| h_seq <| h_block <| h_seq <| h_region <| o_faddr rfl rfl dQ dQ <| o_load 1 rfl rfl rfl rfl dQ <| o_move rfl dQ ?_
  refine o_call1 rfl rfl EntC.out dQ (bitL_spec _ _ (by omega) (by omega)) <| o_move rfl dQ <| o_guard rfl rfl dQ (fun g29 => ?_) (fun g29 => ?_)
  ·
   have g29 : _ = true := g29
   refine o_faddr rfl rfl dQ dQ <| o_guardy rfl rfl g29 dQ <| o_load 1 rfl rfl rfl rfl dQ <| o_guardy rfl rfl g29 dQ <| o_move rfl dQ <| o_guardy rfl rfl g29 dQ ?_
   refine o_call1 rfl rfl EntC.out dQ (bitL_spec _ _ (by omega) (by omega)) <| o_guardy rfl rfl g29 dQ <| o_not rfl dQ <| o_pickt rfl g29 rfl dQ <| o_move rfl dQ <| o_guard rfl rfl dQ (fun g31 => ?_) (fun g31 => ?_)
   ·
    have g31 : _ = true := g31
    refine o_faddr rfl rfl dQ dQ <| o_guardy rfl rfl g31 dQ <| o_load 0 rfl rfl rfl rfl dQ <| o_guardy rfl rfl g31 dQ <| o_move rfl dQ <| o_guardy rfl rfl g31 dQ ?_
    refine o_call1 rfl rfl EntC.out dQ (bitL_spec _ _ (by omega) (by omega)) <| o_pickt rfl g31 rfl dQ <| o_nil <| h_cond rfl (fun c33 => ?_) (fun c33 => ?_)
    ·
     refine h_seq <| h_region <| o_assign rfl dQ <| o_nil <| h_ret <| ret1' rfl (B_eq ?_)
     have hself' := fun h => hself (spl_mem h)
     simp_all
    ·
     refine h_skip <| h_region <| o_move rfl dQ <| o_add rfl rfl (by unfold in64; (try dsimp only); omega) dQ ?_
     refine o_assign rfl dQ <| o_nil <| back rfl ⟨q + 1, hlt⟩ (by dsimp only; omega) (.cons_cons _ (.cons_cons _ (.refl _))) (subT.cons rfl (subT.cons rfl (subT.cons rfl (subT.cons rfl (subT.cons rfl (subT.cons rfl subT.nil))))))
   ·
    have g31 : _ = false := g31
    refine o_guardn rfl rfl g31 dQ <| o_guardn rfl rfl g31 dQ <| o_guardn rfl rfl g31 dQ <| o_pickf rfl g31 rfl dQ <| o_nil <| h_condf rfl rfl <| h_skip <| h_region <| o_move rfl dQ <| o_add rfl rfl (by unfold in64; (try dsimp only); omega) dQ ?_
    refine o_assign rfl dQ <| o_nil <| back rfl ⟨q + 1, hlt⟩ (by dsimp only; omega) (.cons_cons _ (.cons_cons _ (.refl _))) (subT.cons rfl (subT.cons rfl (subT.cons rfl (subT.cons rfl (subT.cons rfl (subT.cons rfl subT.nil))))))
  ·
   have g29 : _ = false := g29
   refine o_guardn rfl rfl g29 dQ <| o_guardn rfl rfl g29 dQ <| o_guardn rfl rfl g29 dQ <| o_guardn rfl rfl g29 dQ <| o_pickf rfl g29 rfl dQ <| o_move rfl dQ <| o_guardn rfl rfl rfl dQ <| o_guardn rfl rfl rfl dQ <| o_guardn rfl rfl rfl dQ <| o_guardn rfl rfl rfl dQ <| o_pickf rfl rfl rfl dQ <| o_nil ?_
   refine h_condf rfl rfl <| h_skip <| h_region <| o_move rfl dQ <| o_add rfl rfl (by unfold in64; (try dsimp only); omega) dQ ?_
   refine o_assign rfl dQ <| o_nil <| back rfl ⟨q + 1, hlt⟩ (by dsimp only; omega) (.cons_cons _ (.cons_cons _ (.refl _))) (subT.cons rfl (subT.cons rfl (subT.cons rfl (subT.cons rfl (subT.cons rfl (subT.cons rfl subT.nil))))))
 ·
  refine h_seq <| h_seq <| h_region <| o_move rfl dQ <| o_cmp rfl rfl rfl dQ <| o_nil <| h_condf rfl (by simp <;> omega) ?_
  refine h_exit <| h_seq <| h_region <| o_assign rfl dQ <| o_nil <| h_seq <| h_seq <| h_region <| o_assign rfl dQ <| o_nil <| h_block <| h_famS (ι := {q : Nat // q ≤ l.length}) (fun i => [(18, V (l.map encV) fl), (21, I c), (25, .ptr x19 0), (29, I (succN n c (untilM l s2))), (34, B (splTo l c i.1)), (35, I (i.1 : Nat))]) (fun i => (x19, .box 32 (cellsW (worldA w (untilM l s2)) false false false)) :: []) (fun i => l.length - i.1) ⟨0, Nat.zero_le _⟩ (.cons_cons _ (.cons _ (.refl _))) (subT.cons rfl (subT.cons rfl (subT.cons rfl (subT.cons rfl (subT.cons rfl (subT.cons rfl subT.nil)))))) ?_
  rintro ⟨q, hq⟩
  dsimp only
  by_cases hlt : q < l.length
  ·
   refine h_seq <| h_seq <| h_region <| o_move rfl dQ <| o_move rfl dQ <| o_len rfl dQ <| o_cmp rfl rfl rfl dQ <| o_nil <| h_condt rfl (by simp; omega) ?_
   refine h_skip <| h_seq <| h_block <| h_region <| o_move rfl dQ <| o_move rfl dQ <| o_guard rfl rfl dQ (fun g37 => ?_) (fun g37 => ?_)
   ·
    have g37 : _ = false := g37
    refine o_move rfl dQ <| o_guardy rfl rfl g37 dQ <| o_move rfl dQ <| o_guardy rfl rfl g37 dQ <| o_idxv rfl rfl (by omega) (eltV (by simpa using hlt)) rfl dQ ?_
    refine o_guardy rfl rfl g37 dQ <| o_faddrv rfl rfl dQ rfl dQ <| o_guardy rfl rfl g37 dQ <| o_loadv rfl rfl dQ <| o_guardy rfl rfl g37 dQ <| o_cmp rfl rfl rfl dQ <| o_guardy rfl rfl g37 dQ <| o_move rfl dQ <| o_guard rfl rfl dQ (fun g39 => ?_) (fun g39 => ?_)
    ·
     have g39 : _ = true := g39
     refine o_move rfl dQ <| o_guardy rfl rfl g39 dQ <| o_move rfl dQ <| o_guardy rfl rfl g39 dQ <| o_idxv rfl rfl (by omega) (eltV (by simpa using hlt)) rfl dQ ?_
     refine o_guardy rfl rfl g39 dQ <| o_faddrv rfl rfl dQ rfl dQ <| o_guardy rfl rfl g39 dQ <| o_loadv rfl rfl dQ <| o_guardy rfl rfl g39 dQ <| o_move rfl dQ <| o_guardy rfl rfl g39 dQ <| o_cmp rfl rfl rfl dQ <| o_guardy rfl rfl g37 dQ <| o_pickt rfl g39 rfl dQ <| o_pickf rfl g37 rfl dQ <| o_assign rfl dQ ?_
     refine o_nil <| h_region <| o_move rfl dQ <| o_add rfl rfl (by unfold in64; (try dsimp only); omega) dQ ?_
     refine o_assign rfl dQ <| o_nil <| back rfl ⟨q + 1, hlt⟩ (by dsimp only; omega) (.cons_cons _ (.refl _)) (subT.cons rfl (subT.cons rfl (subT.cons rfl (subT.cons rfl (subT.cons (congrArg (fun z => some (B z)) (by simp only [splTo, splAt]; simp_all)) (subT.cons rfl subT.nil))))))
    ·
     have g39 : _ = false := g39
     refine o_guardn rfl rfl g39 dQ <| o_guardn rfl rfl g39 dQ <| o_guardn rfl rfl g39 dQ <| o_guardn rfl rfl g39 dQ <| o_guardn rfl rfl g39 dQ <| o_guardn rfl rfl g39 dQ <| o_guardy rfl rfl g37 dQ <| o_pickf rfl g39 rfl dQ <| o_pickf rfl g37 rfl dQ <| o_assign rfl dQ <| o_nil <| h_region ?_
     refine o_move rfl dQ <| o_add rfl rfl (by unfold in64; (try dsimp only); omega) dQ ?_
     refine o_assign rfl dQ <| o_nil <| back rfl ⟨q + 1, hlt⟩ (by dsimp only; omega) (.cons_cons _ (.refl _)) (subT.cons rfl (subT.cons rfl (subT.cons rfl (subT.cons rfl (subT.cons (congrArg (fun z => some (B z)) (by simp only [splTo, splAt]; simp_all)) (subT.cons rfl subT.nil))))))
   ·
    have g37 : _ = true := g37
    refine o_guardn rfl rfl g37 dQ <| o_guardn rfl rfl g37 dQ <| o_guardn rfl rfl g37 dQ <| o_guardn rfl rfl g37 dQ <| o_guardn rfl rfl g37 dQ <| o_guardn rfl rfl g37 dQ <| o_guardx rfl rfl dQ <| o_guardx rfl rfl dQ <| o_guardx rfl rfl dQ <| o_guardx rfl rfl dQ <| o_guardx rfl rfl dQ <| o_guardx rfl rfl dQ ?_
    refine o_guardx rfl rfl dQ <| o_guardn rfl rfl g37 dQ <| o_pickt rfl g37 rfl dQ <| o_assign rfl dQ <| o_nil <| h_region <| o_move rfl dQ <| o_add rfl rfl (by unfold in64; (try dsimp only); omega) dQ ?_
    refine o_assign rfl dQ <| o_nil <| back rfl ⟨q + 1, hlt⟩ (by dsimp only; omega) (.cons_cons _ (.refl _)) (subT.cons rfl (subT.cons rfl (subT.cons rfl (subT.cons rfl (subT.cons (congrArg (fun z => some (B z)) (by simp only [splTo, splAt]; simp_all)) (subT.cons rfl subT.nil))))))
  ·
   obtain rfl : q = l.length := by omega
   refine h_seq <| h_seq <| h_region <| o_move rfl dQ <| o_move rfl dQ <| o_len rfl dQ <| o_cmp rfl rfl rfl dQ <| o_nil <| h_condf rfl (by simp <;> omega) ?_
   refine h_exit <| h_seq <| h_region <| o_faddr rfl rfl dQ dQ <| o_load 0 rfl rfl rfl rfl dQ <| o_move rfl dQ ?_
   refine o_call1 rfl rfl EntC.out dQ (bitL_spec _ _ (by omega) (by omega)) <| o_not rfl dQ <| o_move rfl dQ <| o_guard rfl rfl dQ (fun g43 => ?_) (fun g43 => ?_)
   ·
    have g43 : _ = false := g43
    refine o_move rfl dQ <| o_pickf rfl g43 rfl dQ <| o_move rfl dQ <| o_guard rfl rfl dQ (fun g44 => ?_) (fun g44 => ?_)
    ·
     have g44 : _ = false := g44
     refine o_move rfl dQ <| o_guardy rfl rfl g44 dQ <| o_move rfl dQ <| o_guardy rfl rfl g44 dQ <| o_cmp rfl rfl rfl dQ <| o_pickf rfl g44 rfl dQ <| o_assign rfl dQ <| o_nil <| h_ret <| ret1' rfl (B_eq ?_)
     have hself' := fun h => hself (spl_mem h)
     simp_all
    ·
     have g44 : _ = true := g44
     refine o_guardn rfl rfl g44 dQ <| o_guardn rfl rfl g44 dQ <| o_pickt rfl g44 rfl dQ <| o_assign rfl dQ <| o_nil <| h_ret <| ret1' rfl (B_eq ?_)
     have hself' := fun h => hself (spl_mem h)
     simp_all
   ·
    have g43 : _ = true := g43
    refine o_pickt rfl g43 rfl dQ <| o_move rfl dQ <| o_guardn rfl rfl rfl dQ <| o_guardn rfl rfl rfl dQ <| o_guardn rfl rfl rfl dQ <| o_pickt rfl rfl rfl dQ <| o_assign rfl dQ <| o_nil <| h_ret <| ret1' rfl (B_eq ?_)
    have hself' := fun h => hself (spl_mem h)
    simp_all

end Go.Proofs.YtnoicbajhlpndaaGreat
