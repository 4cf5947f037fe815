/- How many numbers are held, and by whom, behind events. -/
import Derived.Test.YtnoicbajhlpndaaGreatSuccA
namespace Go.Proofs.YtnoicbajhlpndaaGreat
open Go Go.RowKit Go.Shelf Hp
set_option maxRecDepth 10000
set_option maxHeartbeats 1000000
set_option linter.unusedVariables false
set_option linter.unusedSimpArgs false
attribute [local irreducible] WP WPs FnX IterX YdX RetP PanP Ch Back Join
/-- How many of n numbers from s on have a property. -/
def meas (p : Int → Bool) : Int → Nat → Int
  | _, 0 => 0
  | s, n + 1 => (if p s then 1 else 0) + meas p (s + 1) n
theorem meas_add (p : Int → Bool) : ∀ (a b : Nat) (s : Int), meas p s (a + b) = meas p s a + meas p (s + a) b
  | 0, b, s => by simp [meas]
  | a + 1, b, s => by
    have ih := meas_add p a b (s + 1)
    rw [show a + 1 + b = (a + b) + 1 by omega]
    simp only [meas, ih]
    rw [show s + 1 + (a : Int) = s + ((a + 1 : Nat) : Int) by omega]; omega
theorem meas_congr {p q : Int → Bool} : ∀ (n : Nat) (s : Int), (∀ m, s ≤ m → m < s + n → p m = q m) → meas p s n = meas q s n
  | 0, _, _ => rfl
  | n + 1, s, h => by
    simp only [meas]
    rw [h s (by omega) (by omega), meas_congr n (s + 1) fun m h1 h2 => h m (by omega) (by omega)]
theorem meas_true {p : Int → Bool} : ∀ (n : Nat) (s : Int), (∀ m, s ≤ m → m < s + n → p m = true) → meas p s n = n
  | 0, _, _ => rfl
  | n + 1, s, h => by
    simp only [meas]
    rw [h s (by omega) (by omega), meas_true n (s + 1) fun m h1 h2 => h m (by omega) (by omega)]
    simp; omega
theorem meas_false {p : Int → Bool} : ∀ (n : Nat) (s : Int), (∀ m, s ≤ m → m < s + n → p m = false) → meas p s n = 0
  | 0, _, _ => rfl
  | n + 1, s, h => by
    simp only [meas]
    rw [h s (by omega) (by omega), meas_false n (s + 1) fun m h1 h2 => h m (by omega) (by omega)]
    simp
def lenB : List Blk → Int
  | [] => 0
  | b :: r => (b.t - b.f) + lenB r
def heldB (m : Int) (l : List Blk) : Bool := decide (hd m l ≠ -1)
theorem held_no {m : Int} {l : List Blk} (h : hd m l = -1) : heldB m l = false := by unfold heldB; rw [h]; decide
theorem held_yes {m : Int} {l : List Blk} (h : 0 ≤ hd m l) : heldB m l = true := by unfold heldB; rw [decide_eq_true_eq]; omega
theorem held_eq {m : Int} {l l' : List Blk} (h : hd m l = hd m l') : heldB m l = heldB m l' := by unfold heldB; rw [h]
theorem lenB_meas : ∀ {l : List Blk} {e c : Int}, e ≤ 100000000 → Can e c l → lenB l = meas (fun m => heldB m l) e (100000000 - e).toNat
  | [], e, c, _, _ => by rw [meas_false]; rfl; intro m _ _; rfl
  | b :: r, e, c, he, ⟨g1, g2, g3, g4, g5, g6, g7⟩ => by
    have ih := lenB_meas (l := r) (by omega) g7
    rw [show (100000000 - e).toNat = (b.f - e).toNat + ((b.t - b.f).toNat + (100000000 - b.t).toNat) by omega, meas_add, meas_add]
    rw [meas_false (b.f - e).toNat, meas_true (b.t - b.f).toNat]
    · rw [show e + ((b.f - e).toNat : Int) + ((b.t - b.f).toNat : Int) = b.t by omega]
      rw [meas_congr (q := fun m => heldB m r), ← ih]
      · simp only [lenB]; omega
      · intro m h1 h2; exact held_eq (by simp only [hd]; rw [if_pos h1])
    · intro m h1 h2; exact held_yes (by simp only [hd]; rw [if_neg (by omega), if_neg (by omega)]; exact g4)
    · intro m h1 h2; exact held_no (by simp only [hd]; rw [if_neg (by omega), if_pos (by omega)])
/-- As many numbers are held where the same numbers are held. -/
theorem lenB_eq {l l' : List Blk} (h : Can 0 (-1) l) (h' : Can 0 (-1) l') (he : ∀ m, 0 ≤ m → m < 100000000 → (hd m l = -1 ↔ hd m l' = -1)) : lenB l = lenB l' := by
  rw [lenB_meas (by omega) h, lenB_meas (by omega) h']
  refine meas_congr _ _ fun m h1 h2 => ?_
  have := he m h1 (by omega)
  by_cases hh : hd m l = -1
  · rw [held_no hh, held_no (this.1 hh)]
  · have h3 : hd m l' ≠ -1 := fun h4 => hh (this.2 h4)
    have r1 := hd_rng (m := m) h
    have r2 := hd_rng (m := m) h'
    rw [held_yes (by omega), held_yes (by omega)]
def totM (l : List Blk) : Nat → Int
  | 0 => 0
  | k + 1 => totM l k + countB l k
def cntTo (l : List Blk) : Nat → Int
  | 0 => 0
  | k + 1 => cntTo l k + cntB k l
theorem cntTo_cons (b : Blk) (r : List Blk) : ∀ k : Nat, cntTo (b :: r) k = cntTo r k + if 0 ≤ b.c ∧ b.c < k then b.t - b.f else 0
  | 0 => by simp only [cntTo]; rw [if_neg (by omega)]; rfl
  | k + 1 => by
    simp only [cntTo, cntB, cntTo_cons b r k]
    by_cases h : b.c = k
    · rw [if_pos h, if_neg (by omega), if_pos (by omega)]; omega
    · rw [if_neg h]
      by_cases h2 : 0 ≤ b.c ∧ b.c < k
      · rw [if_pos h2, if_pos (by omega)]; omega
      · rw [if_neg h2, if_neg (by omega)]; omega
theorem cntTo_nil : ∀ k : Nat, cntTo [] k = 0
  | 0 => rfl
  | k + 1 => by simp only [cntTo, cntTo_nil k, cntB]; rfl
theorem cntTo_all : ∀ {l : List Blk}, (∀ b ∈ l, 0 ≤ b.c ∧ b.c ≤ 7) → cntTo l 8 = lenB l
  | [], _ => cntTo_nil 8
  | b :: r, h => by
    have hb := h b List.mem_cons_self
    rw [cntTo_cons, cntTo_all fun x hx => h x (List.mem_cons_of_mem _ hx), if_pos (by omega)]
    simp only [lenB]; omega
theorem totM_cntTo {l : List Blk} (hv : validB l = true) : ∀ k, totM l k = cntTo l k
  | 0 => rfl
  | k + 1 => by simp only [totM, cntTo, totM_cntTo hv k, countB, hv, if_true]
theorem tot_len {l : List Blk} (hv : validB l = true) : totM l 8 = lenB l := by
  rw [totM_cntTo hv, cntTo_all (can_car (valid_can hv))]
theorem tot_bd {l : List Blk} (hv : validB l = true) : ∀ k, 0 ≤ totM l k ∧ totM l k ≤ k * 4000000000
  | 0 => by simp [totM]
  | k + 1 => by
    have ih := tot_bd hv k
    have h1 := cntB_bound hv (k : Int) l.length (Nat.le_refl _)
    rw [List.take_length] at h1
    have := valid_len hv
    simp only [totM, countB, hv, if_true]; omega
/-! ### Find -/
def findM (l : List Blk) (n : Int) : Int × Bool := if (validB l && decide (hd n l ≠ -1)) = true then (hd n l, true) else (0, false)
theorem hd_ge {m : Int} (hm : 100000000 ≤ m) : ∀ {l : List Blk} {e c : Int}, Can e c l → hd m l = -1
  | [], _, _, _ => rfl
  | b :: r, e, c, ⟨g1, g2, g3, g4, g5, g6, g7⟩ => by simp only [hd]; rw [if_pos (by omega)]; exact hd_ge hm g7
theorem tot_same {w : Wd} {l : List Ev} {t : Int} (hv : VParts w) (h : PossL w t l) : totM (worldA w l).blocks 8 = totM w.blocks 8 := by
  have hv' := worldA_valid hv h
  rw [tot_len hv'.blk, tot_len hv.blk]
  refine lenB_eq (valid_can hv'.blk) (valid_can hv.blk) fun m m0 m1 => ?_
  rw [world_hold m0 m1 hv h]
  have hr := hd_rng (m := m) (valid_can hv.blk)
  by_cases h1 : hd m w.blocks = -1
  · rw [if_pos h1]; exact ⟨fun _ => h1, fun _ => rfl⟩
  · rw [if_neg h1]
    have := succN_rng (n := m) h (show 0 ≤ hd m w.blocks ∧ hd m w.blocks ≤ 7 by omega)
    exact ⟨fun h => by omega, fun h => absurd h h1⟩
/-- Who holds a number before events, and who behind them. -/
theorem num_law {w : Wd} {l : List Ev} {t : Int} (hv : VParts w) (h : PossL w t l) (n : Int) :
    (findM w.blocks n).2 = (findM (worldA w l).blocks n).2 ∧ ((findM w.blocks n).2 = true → (0 ≤ n ∧ n ≤ 99999999) ∧ (0 ≤ (findM w.blocks n).1 ∧ (findM w.blocks n).1 ≤ 7) ∧ succN n (findM w.blocks n).1 l = (findM (worldA w l).blocks n).1 ∧
      (0 ≤ (findM (worldA w l).blocks n).1 ∧ (findM (worldA w l).blocks n).1 ≤ 7) ∧ bitM (worldA w l).alive (findM (worldA w l).blocks n).1 = true) := by
  have hv' := worldA_valid hv h
  have hc := valid_can hv.blk
  have hc' := valid_can hv'.blk
  have hr := hd_rng (m := n) hc
  have hr' := hd_rng (m := n) hc'
  obtain ⟨a0, a1⟩ := alive_range hv'
  unfold findM
  rw [hv.blk, hv'.blk]
  simp only [Bool.true_and, decide_eq_true_eq]
  by_cases hn : 0 ≤ n ∧ n < 100000000
  · have hw := world_hold hn.1 hn.2 hv h
    by_cases h1 : hd n w.blocks = -1
    · rw [if_pos h1] at hw
      rw [if_neg (fun h => h h1), if_neg (fun h => h hw)]
      exact ⟨rfl, fun h => by cases h⟩
    · rw [if_neg h1] at hw
      have hs := succN_rng (n := n) h (show 0 ≤ hd n w.blocks ∧ hd n w.blocks ≤ 7 by omega)
      rw [if_pos h1, if_pos (by rw [hw]; omega)]
      refine ⟨rfl, fun _ => ⟨by omega, by dsimp only; omega, hw.symm, by dsimp only; omega, ?_⟩⟩
      dsimp only
      have := (dead_iff hc').1 hv'.dead n hn.1 hn.2 (by omega)
      rw [← has_bit a0 a1 (by omega) (by omega)]; exact this
  · have e1 : ∀ {l : List Blk}, Can 0 (-1) l → hd n l = -1 := fun hl => by
      rcases Int.lt_or_le n 0 with h0 | h0
      · exact hd_lt hl h0
      · exact hd_ge (by omega) hl
    rw [if_neg (fun h => h (e1 hc)), if_neg (fun h => h (e1 hc'))]
    exact ⟨rfl, fun h => by cases h⟩
end Go.Proofs.YtnoicbajhlpndaaGreat
/- The walks of block.Find, the reference's Near, and the law's total. -/
namespace Go.Proofs.YtnoicbajhlpndaaGreat
open Go Go.RowKit Go.Shelf Hp
set_option maxRecDepth 10000
set_option maxHeartbeats 1000000
set_option linter.unusedVariables false
set_option linter.unusedSimpArgs false
attribute [local irreducible] WP WPs FnX IterX YdX RetP PanP Ch Back Join

theorem find1_spec (n : Int) (b : Blk) (e : Nat) : Fc Tryz.prog 98 [.agg [I b.f, I b.t, I b.c], .ptr e 0] [(e, .box 3 [I n])] (fun r h' => r = B (decide (b.f ≤ n) && decide (n < b.t)) ∧ h' = [(e, .box 3 [I n])]) := by
 refine fnE_intro (N := 16) Tryz.func98 rfl rfl rfl ?_
 intro X
 refine h_seq <| h_region <| o_box rfl rfl dQ fun x1 => o_assign rfl dQ <| o_nil <| h_seq <| h_region <| o_faddr rfl rfl dQ dQ <| o_faddr rfl rfl dQ dQ <| o_load 0 rfl rfl rfl rfl dQ <| o_load 1 rfl rfl rfl rfl dQ <| o_cmp rfl rfl rfl dQ ?_
 refine o_move rfl dQ <| o_guard rfl rfl dQ (fun g3 => ?_) (fun g3 => ?_)
 ·
  have g3 : _ = true := g3
  refine o_load 1 rfl rfl rfl rfl dQ <| o_guardy rfl rfl g3 dQ <| o_faddr rfl rfl dQ dQ <| o_guardy rfl rfl g3 dQ <| o_faddr rfl rfl dQ dQ <| o_guardy rfl rfl g3 dQ <| o_load 0 rfl rfl rfl rfl dQ <| o_guardy rfl rfl g3 dQ <| o_cmp rfl rfl rfl dQ <| o_pickt rfl g3 rfl dQ <| o_assign rfl dQ <| o_nil ?_
  exact h_ret <| retS1 _ rfl (.cons _ (.refl _)) ⟨_, rfl, B_eq (by first | (simp_all; done) | (simp_all <;> omega)), rfl⟩
 ·
  have g3 : _ = false := g3
  exact o_guardn rfl rfl g3 dQ <| o_guardn rfl rfl g3 dQ <| o_guardn rfl rfl g3 dQ <| o_guardn rfl rfl g3 dQ <| o_pickf rfl g3 rfl dQ <| o_assign rfl dQ <| o_nil <| h_ret <| retS1 _ rfl (.cons _ (.refl _)) ⟨_, rfl, B_eq (by first | (simp_all; done) | (simp_all <;> omega)), rfl⟩

theorem find_hp (l : List Blk) (n : Int) (e : Nat) : ∀ k (hk : k < l.length), Fc Tryz.prog 98 ([.agg [I l[k].f, I l[k].t, I l[k].c]] ++ [.ptr e 0]) [(e, .box 3 [I n])] (fun r h' => r = B (hitB l n k) ∧ h' = [(e, .box 3 [I n])]) := fun k hk => by
  have := find1_spec n l[k] e
  simp only [hitB, show l.getD k dB = l[k] from by simp [hk]]
  exact this

theorem find_no {l : List Blk} {n : Int} (h : validB l = true → hd n l = -1) : findM l n = (0, false) := by
  unfold findM
  cases hv : validB l with
  | false => rfl
  | true => rw [if_neg (by simp [h hv])]

theorem find_spec (l : List Blk) (hlen : l.length ≤ 1000000000) (fl : Bool) (n : Int) : Fn1 Tryz.prog 38 [V (l.map encB) fl, I n] (.tup [I (findM l n).1, B (findM l n).2]) := by
  refine fnE_intro (N := 22) Tryz.func38 rfl rfl rfl ?_
  intro X
  refine h_seq <| h_region <| o_box rfl rfl dQ fun x5 => o_assign rfl dQ <| o_assign rfl dQ <| o_nil <| h_seq <| h_region <| o_move rfl dQ <| o_makeFunc rfl dQ <| o_callA rfl rfl EntC.out dQ (blkIndex l hlen fl 98 [.ptr x5 0] (fun _ => [(x5, .box 3 [I n])]) (hitB l n) (find_hp l n x5)) fun v h' hr => ?_
  obtain ⟨rfl, rfl⟩ := hr
  refine o_assign rfl dQ <| o_nil ?_
  obtain ⟨i0, hi0⟩ : ∃ i0, i0 = idxOf (hitB l n) l.length := ⟨_, rfl⟩
  rw [← hi0]
  have hor : (∃ k, k < l.length ∧ i0 = (k : Int) ∧ holderR l n = (l.getD k dB).c) ∨ (i0 = -1 ∧ holderR l n = -1) := by
    rcases fst_cases (hitB l n) l.length with ⟨k, hk, h1, h2, _⟩ | ⟨h2, _⟩
    · exact .inl ⟨k, hk, by rw [hi0]; exact (idx_some hk h1 h2).1, holder_some hk h1 h2⟩
    · exact .inr ⟨by rw [hi0]; exact (idx_none h2).1, holder_none h2⟩
  clear hi0
  rcases hor with ⟨k, hk, rfl, hho⟩ | ⟨rfl, hho⟩
  ·
    refine h_seq <| h_seq <| h_region <| o_move rfl dQ <| o_cmp rfl rfl rfl dQ <| o_move rfl dQ <| o_guardy rfl rfl (by simp) dQ ?_
    refine o_move rfl dQ <| o_guardy rfl rfl (by simp) dQ ?_
    refine o_call1 rfl rfl EntC.out dQ (bvalid_spec _ _) <| o_guardy rfl rfl (by simp) dQ ?_
    refine o_not rfl dQ <| o_pickf rfl (by simp) rfl dQ ?_
    refine o_nil <| h_cond rfl (fun c8 => ?_) (fun c8 => ?_)
    ·
      refine h_seq <| h_region <| o_assign rfl dQ <| o_assign rfl dQ <| o_nil <| h_ret <| ret2' rfl rfl ?_
      have hq : findM l n = (0, false) := by unfold findM; rw [if_neg (by simp_all)]
      rw [hq]; rfl
    ·
      refine h_skip <| h_seq <| h_region <| o_move rfl dQ <| o_move rfl dQ <| o_idxv rfl rfl (by omega) (eltBk (by simpa using hk)) rfl dQ ?_
      refine o_faddrv rfl rfl dQ rfl dQ <| o_loadv rfl rfl dQ <| o_assign rfl dQ <| o_assign rfl dQ <| o_nil <| h_ret <| ret2' rfl rfl ?_
      have hvb : validB l = true := by simp_all
      have hq : findM l n = ((l.getD k dB).c, true) := by have h3 := holder_hd (n := n) (valid_can hvb); have h4 := can_car (valid_can hvb) (l.getD k dB) (by rw [List.getD_eq_getElem?_getD, List.getElem?_eq_getElem hk]; exact List.getElem_mem hk); unfold findM; rw [← h3, hho, if_pos (by rw [hvb, Bool.true_and]; exact decide_eq_true (by omega))]
      rw [hq]; rfl
  ·
    refine h_seq <| h_seq <| h_region <| o_move rfl dQ <| o_cmp rfl rfl rfl dQ <| o_move rfl dQ <| o_guardn rfl rfl dQ dQ <| o_guardn rfl rfl dQ dQ <| o_guardn rfl rfl dQ dQ <| o_pickt rfl dQ rfl dQ <| o_nil <| h_condt rfl rfl ?_
    refine h_seq <| h_region <| o_assign rfl dQ <| o_assign rfl dQ <| o_nil <| h_ret <| ret2' rfl rfl ?_
    have hq : findM l n = (0, false) := find_no fun hv => by rw [← holder_hd (valid_can hv)]; exact hho
    rw [hq]; rfl

theorem tdiv_in {m n : Int} (h : in64 m) (hn : n = 8 ∨ n = 4) : in64 (m.tdiv n) := by
  unfold in64 at h ⊢
  rcases Int.le_total 0 m with h0 | h0
  · rw [Int.tdiv_eq_ediv_of_nonneg h0]
    rcases hn with rfl | rfl <;> omega
  · have : m.tdiv n = -((-m).tdiv n) := by rw [Int.neg_tdiv]; omega
    rw [this, Int.tdiv_eq_ediv_of_nonneg (by omega)]
    rcases hn with rfl | rfl <;> omega

theorem near_spec (l : List Blk) (hv : validB l = true) (fl : Bool) (which n : Int) (hw : in64 which) (hn : in64 n) : Fc Tryz.prog 37 [V (l.map encB) fl, I which, I n] [] (fun r h' => (∃ m, r = I m) ∧ h' = []) := by
 have hlen := valid_len hv; refine fnE_intro (N := 43) Tryz.func37 rfl rfl rfl ?_
 intro X
 refine h_seq <| h_region <| o_assign rfl dQ <| o_nil <| h_seq <| h_seq <| h_region <| o_move rfl dQ <| o_len rfl dQ <| o_cmp rfl rfl rfl dQ <| o_move rfl dQ <| o_guard rfl rfl dQ (fun g11 => ?_) (fun g11 => ?_)
 ·
  have g11 : _ = false := g11
  refine o_move rfl dQ <| o_guardy rfl rfl g11 dQ <| o_call1 rfl rfl EntC.out dQ (pick13_spec _ _ hw dQ) <| o_guardy rfl rfl g11 dQ <| o_cmp rfl rfl rfl dQ <| o_pickf rfl g11 rfl dQ <| o_nil <| h_cond rfl (fun c13 => ?_) (fun c13 => ?_)
  ·
   exact h_seq <| h_region <| o_move rfl dQ <| o_assign rfl dQ <| o_nil <| h_ret <| retS1 [] rfl (List.nil_sublist _) ⟨_, rfl, ⟨_, rfl⟩, rfl⟩
  ·
   refine h_skip <| h_seq ?_
   have hlp : 0 < l.length := by rcases Nat.eq_zero_or_pos l.length with h0 | h0; exact absurd g11 (by simp [h0]); exact h0
   have hpl := pickM_range (c := which.tdiv 8) (n := (((l.map encB).length : Nat) : Int)) (by simp; omega)
   rw [List.length_map] at hpl
   refine h_region <| o_move rfl dQ <| o_move rfl dQ <| o_quo rfl rfl dQ (tdiv_in hw (.inl rfl)) dQ <| o_move rfl dQ <| o_len rfl dQ <| o_call1 rfl rfl EntC.out dQ (pick13_spec _ _ (tdiv_in hw (.inl rfl)) (by rw [List.length_map]; omega)) <| o_idxv rfl rfl (by rw [List.length_map]; omega) (eltBk (by rw [List.length_map]; omega)) rfl dQ <| o_loadv rfl rfl dQ <| o_alloc dQ fun x14 => ?_
   refine o_store 0 rfl rfl rfl rfl rfl rfl <| o_nil <| h_seq <| h_seq <| h_region <| o_move rfl dQ <| o_quo rfl rfl dQ (tdiv_in hw (.inr rfl)) dQ <| o_call1 rfl rfl EntC.out dQ (pick13_spec _ _ (tdiv_in hw (.inr rfl)) dQ) <| o_cmp rfl rfl rfl dQ <| o_nil <| h_cond rfl (fun c16 => ?_) (fun c16 => ?_)
   ·
    refine h_seq <| h_draw _ (List.nil_sublist _) [(0, .flo), (1, .flo), (2, .val), (3, .flo), (4, .flo), (5, .flo), (6, .flo), (7, .flo)] mixed (by kernel_rfl) <| c_flo rfl rfl (fun _ _ _ _ jj => o_faddr rfl rfl dQ dQ jj) <| c_flo rfl rfl (fun _ _ _ _ jj => o_faddr rfl rfl dQ dQ jj) <| c_val rfl rfl (fun _ _ _ _ jj => o_load 0 rfl rfl rfl rfl dQ jj) <| c_flo rfl rfl (fun _ _ _ _ jj => o_sub rfl rfl (by have p3 := pickM_range (c := n) (n := 3) (by omega); have hm := can_mem (valid_can hv) (l.getD (pickM (which.tdiv 8) (((l.map encB).length : Nat) : Int)).toNat dB) (by rw [List.getD_eq_getElem?_getD, List.getElem?_eq_getElem (by rw [List.length_map]; omega)]; exact List.getElem_mem _); unfold in64; (try dsimp only); omega) dQ jj) ?_
    refine c_flo rfl rfl (fun _ _ _ _ jj => o_move rfl dQ jj) <| c_flo rfl rfl (fun _ _ _ _ jj => o_call1 rfl rfl EntC.out dQ (pick13_spec _ _ hn dQ) jj) <| c_flo rfl rfl (fun _ _ _ _ jj => o_add rfl rfl (by have p3 := pickM_range (c := n) (n := 3) (by omega); have hm := can_mem (valid_can hv) (l.getD (pickM (which.tdiv 8) (((l.map encB).length : Nat) : Int)).toNat dB) (by rw [List.getD_eq_getElem?_getD, List.getElem?_eq_getElem (by rw [List.length_map]; omega)]; exact List.getElem_mem _); unfold in64; (try dsimp only); omega) dQ jj) ?_
    exact c_flo rfl rfl (fun _ _ _ _ jj => o_assign rfl dQ jj) <| c_nil <| h_ret <| retS1 [] rfl (List.nil_sublist _) ⟨_, rfl, ⟨_, rfl⟩, rfl⟩
   ·
    refine h_skip <| h_seq <| h_draw _ (List.nil_sublist _) [(0, .flo), (1, .flo), (2, .val), (3, .flo), (4, .flo), (5, .flo), (6, .flo), (7, .flo)] mixed (by kernel_rfl) <| c_flo rfl rfl (fun _ _ _ _ jj => o_faddr rfl rfl dQ dQ jj) <| c_flo rfl rfl (fun _ _ _ _ jj => o_faddr rfl rfl dQ dQ jj) <| c_val rfl rfl (fun _ _ _ _ jj => o_load 0 rfl rfl rfl rfl dQ jj) <| c_flo rfl rfl (fun _ _ _ _ jj => o_sub rfl rfl (by have p3 := pickM_range (c := n) (n := 3) (by omega); have hm := can_mem (valid_can hv) (l.getD (pickM (which.tdiv 8) (((l.map encB).length : Nat) : Int)).toNat dB) (by rw [List.getD_eq_getElem?_getD, List.getElem?_eq_getElem (by rw [List.length_map]; omega)]; exact List.getElem_mem _); unfold in64; (try dsimp only); omega) dQ jj) ?_
    refine c_flo rfl rfl (fun _ _ _ _ jj => o_move rfl dQ jj) <| c_flo rfl rfl (fun _ _ _ _ jj => o_call1 rfl rfl EntC.out dQ (pick13_spec _ _ hn dQ) jj) <| c_flo rfl rfl (fun _ _ _ _ jj => o_add rfl rfl (by have p3 := pickM_range (c := n) (n := 3) (by omega); have hm := can_mem (valid_can hv) (l.getD (pickM (which.tdiv 8) (((l.map encB).length : Nat) : Int)).toNat dB) (by rw [List.getD_eq_getElem?_getD, List.getElem?_eq_getElem (by rw [List.length_map]; omega)]; exact List.getElem_mem _); unfold in64; (try dsimp only); omega) dQ jj) ?_
    exact c_flo rfl rfl (fun _ _ _ _ jj => o_assign rfl dQ jj) <| c_nil <| h_ret <| retS1 [] rfl (List.nil_sublist _) ⟨_, rfl, ⟨_, rfl⟩, rfl⟩
 ·
  have g11 : _ = true := g11
  exact o_guardn rfl rfl g11 dQ <| o_guardn rfl rfl g11 dQ <| o_pickt rfl g11 rfl dQ <| o_nil <| h_condt rfl rfl <| h_seq <| h_region <| o_move rfl dQ <| o_assign rfl dQ <| o_nil <| h_ret <| retS1 [] rfl (List.nil_sublist _) ⟨_, rfl, ⟨_, rfl⟩, rfl⟩

theorem total_spec (l : List Blk) (hv : validB l = true) (fl : Bool) : Fn1 Tryz.prog 36 [V (l.map encB) fl] (I (totM l 8)) := by
 refine fnE_intro (N := 15) Tryz.func36 rfl rfl rfl ?_
 intro X
 refine h_seq <| h_region <| o_assign rfl dQ <| o_nil <| h_seq <| h_region <| o_assign rfl dQ <| o_nil <| h_seq <| h_seq <| h_region <| o_assign rfl dQ ?_
 refine o_nil <| h_block <| h_famS (ι := {q : Nat // q ≤ 8}) (fun i => [(0, V (l.map encB) fl), (3, I (totM l i.1)), (4, I (i.1 : Nat))]) (fun i => []) (fun i => 8 - i.1) ⟨0, Nat.zero_le _⟩ (.refl _) (subT.cons rfl (subT.cons rfl (subT.cons rfl subT.nil))) ?_
 rintro ⟨q, hq⟩
 dsimp only
 by_cases hlt : q < 8
 have htb := tot_bd hv q
 have htb2 := tot_bd hv (q + 1)
 ·
  refine h_seq <| h_seq <| h_region <| o_move rfl dQ <| o_cmp rfl rfl rfl dQ <| o_nil <| h_condt rfl (by simp; omega) ?_
  refine h_skip <| h_seq <| h_block <| h_region <| o_move rfl dQ <| o_move rfl dQ <| o_move rfl dQ <| o_call1 rfl rfl EntC.out dQ (count_spec _ _ _) <| o_add rfl rfl (by simp only [totM] at htb2; unfold in64; (try dsimp only); omega) dQ ?_
  refine o_assign rfl dQ <| o_nil <| h_region <| o_move rfl dQ <| o_add rfl rfl (by unfold in64; (try dsimp only); omega) dQ ?_
  refine o_assign rfl dQ <| o_nil <| back rfl ⟨q + 1, hlt⟩ (by dsimp only; omega) (.refl _) (subT.cons rfl (subT.cons rfl (subT.cons rfl subT.nil)))
 ·
  obtain rfl : q = 8 := by omega
  refine h_seq <| h_seq <| h_region <| o_move rfl dQ <| o_cmp rfl rfl rfl dQ <| o_nil <| h_condf rfl (by simp <;> omega) ?_
  exact h_exit <| h_seq <| h_region <| o_move rfl dQ <| o_assign rfl dQ <| o_nil <| h_ret <| ret1' rfl rfl

end Go.Proofs.YtnoicbajhlpndaaGreat
/- The walk of the law MergeNumbers. -/
namespace Go.Proofs.YtnoicbajhlpndaaGreat
open Go Go.RowKit Go.Shelf Hp
set_option maxRecDepth 10000
set_option maxHeartbeats 1000000
set_option linter.unusedVariables false
set_option linter.unusedSimpArgs false
attribute [local irreducible] WP WPs FnX IterX YdX RetP PanP Ch Back Join

theorem mergeNumbers_spec (a0 a1 a2 : Int) (ha0 : in64 a0) (ha1 : in64 a1) (ha2 : in64 a2) (x : List T3) (hxl : x.length ≤ 1000000000) (hx : ok3 x) (fx : Bool) (z : List T7) (hzl : z.length ≤ 1000000000) (hz : ok7 z) (fz : Bool) (a3 a4 a5 : Int) (ha3 : in64 a3) (ha4 : in64 a4) (ha5 : in64 a5) : Fn1 Tryz.prog 7 [.agg [I a0, I a1, I a2], V (x.map enc3) fx, V (z.map enc7) fz, I a3, I a4, I a5] (B true) := by
 refine fnE_intro (N := 126) Tryz.func7 rfl rfl rfl ?_
 intro X
 refine h_seq <| h_region <| o_box rfl rfl dQ fun x1 => o_assign rfl dQ <| o_nil <| h_seq <| h_region <| o_call1 rfl rfl EntC.out dQ sane_spec <| o_assign rfl dQ <| o_nil <| h_seq <| h_seq ?_
 refine h_region <| o_move rfl dQ <| o_not rfl dQ <| o_nil <| h_condf rfl rfl <| h_skip <| h_seq <| h_region <| o_load 0 rfl rfl rfl rfl dQ <| o_move rfl dQ <| o_callN rfl rfl EntC.out dQ (made_spec a0 a1 a2 ha0 ha1 ha2 x [] hxl (by simp) hx ok3_nil fx true) fun v h' hr => ?_
 obtain ⟨⟨ds, w1, w2, w3, w4, rfl, hdl, hgd, hlk⟩, rfl⟩ := hr
 obtain ⟨hmv, hmb, hmm, hma⟩ := made_valid a0 a1 x a2 ds hdl hgd
 obtain ⟨w, hw⟩ : ∃ w, w = madeW a0 a1 x a2 ds := ⟨_, rfl⟩
 rw [← hw] at hmv hmb hmm ⊢
 refine o_move rfl dQ <| o_extract rfl rfl dQ <| o_extract rfl rfl dQ <| o_alloc dQ fun x3 => ?_
 refine o_store 0 rfl rfl rfl rfl rfl rfl <| o_assign rfl dQ <| o_nil <| h_seq <| h_region <| o_load 0 rfl rfl rfl rfl dQ <| o_move rfl dQ <| o_callN rfl rfl EntC.out dQ (events42_spec w hmv w1 w2 w3 z hzl hz fz) fun v h' hr => ?_
 obtain ⟨⟨l, fl, rfl, hl8, hps⟩, rfl⟩ := hr
 refine o_assign rfl dQ <| o_nil <| h_seq <| h_draw _ (.cons_cons _ (.cons_cons _ (List.nil_sublist _))) [(0, .box), (1, .flo), (2, .flo), (3, .flo), (4, .flo), (5, .flo), (6, .flo), (7, .flo), (8, .new), (9, .sto), (10, .flo)] mixed (by kernel_rfl) <| c_box rfl rfl (fun _ _ _ _ jj => o_load 0 rfl rfl rfl rfl dQ jj) <| c_flo rfl rfl (fun _ _ _ _ jj => o_move rfl dQ jj) <| c_flo rfl rfl (fun _ _ _ _ jj => o_move rfl dQ jj) ?_
 refine c_flo rfl rfl (fun _ _ _ _ jj => o_call1 rfl rfl EntC.out dQ (pickL_spec _ _ (by first | exact ha4 | exact ha5) dQ) jj) ?_
 refine c_flo rfl rfl (fun _ _ _ _ jj => o_call1 rfl rfl EntC.out dQ (atF_spec w l (pickM a5 40) (by omega) w1 w2 w3 fl) jj) <| c_flo rfl rfl (fun _ _ _ _ jj => o_move rfl dQ jj) <| c_flo rfl rfl (fun _ _ _ _ jj => o_extract rfl rfl dQ jj) <| c_flo rfl rfl (fun _ _ _ _ jj => o_extract rfl rfl dQ jj) <| c_new rfl rfl (fun _ _ _ _ jj => o_alloc dQ jj) fun x4 => ?_
 refine c_sto (.cons _ (.cons_cons _ (.cons_cons _ (List.nil_sublist _)))) rfl rfl (fun _ _ _ _ jj => o_store 0 rfl rfl rfl rfl rfl rfl jj) <| c_flo rfl rfl (fun _ _ _ _ jj => o_assign rfl dQ jj) <| c_nil ?_
 have pT := pickM_range (c := a5) (n := 40) (by omega)
 have hat := atMW_of hmv (by omega) hps (s := pickM a5 40) pT.1 (by omega)
 have pu := poss_until (s := pickM a5 40) hps
 have hvv := worldA_valid hmv pu
 rw [hat]
 dsimp only
 have hts := tot_same hmv pu
 have hnl := num_law hmv pu
 obtain ⟨v, hv⟩ : ∃ v, v = worldA w (untilM l (pickM a5 40)) := ⟨_, rfl⟩
 rw [← hv] at hvv hts hnl ⊢
 have hvw1 : validW w = true := (valid_iff w).2 hmv
 have hvw2 : validW v = true := (valid_iff v).2 hvv
 have hb1 := valid_len hmv.blk
 have hb2 := valid_len hvv.blk
 refine h_seq <| h_seq <| h_draw _ (List.nil_sublist _) [(0, .flo), (1, .flo), (2, .flo), (3, .val), (4, .flo), (5, .flo), (6, .flo), (7, .flo), (8, .val), (9, .flo), (10, .flo), (11, .flo), (12, .flo), (13, .flo), (14, .val), (15, .flo), (16, .flo), (17, .val), (18, .flo), (19, .flo), (20, .flo)] mixed (by kernel_rfl) <| c_flo rfl rfl (fun _ _ _ _ jj => o_move rfl dQ jj) <| c_flo rfl rfl (fun _ _ _ _ jj => o_cmp rfl rfl rfl dQ jj) <| c_flo rfl rfl (fun _ _ _ _ jj => o_move rfl dQ jj) <| c_val rfl rfl (fun _ _ _ _ jj => o_guardy rfl rfl dQ dQ (o_load 1 rfl rfl rfl rfl dQ jj)) <| c_flo rfl rfl (fun _ _ _ _ jj => o_guardy rfl rfl dQ dQ (o_call1 rfl rfl EntC.out dQ (mvalid_spec _ _ _ _) jj)) <| c_flo rfl rfl (fun _ _ _ _ jj => o_guardy rfl rfl dQ dQ (o_not rfl dQ jj)) <| c_flo rfl rfl (fun _ _ _ _ jj => o_pickf rfl dQ rfl dQ jj) <| c_flo rfl rfl (fun _ _ _ _ jj => o_move rfl dQ jj) <| c_val rfl rfl (fun _ _ _ _ jj => o_guardy rfl rfl (by rw [hvw1]; rfl) dQ (o_load 0 rfl rfl rfl rfl dQ jj)) ?_
 refine c_flo rfl rfl (fun _ _ _ _ jj => o_guardy rfl rfl (by rw [hvw1]; rfl) dQ (o_call1 rfl rfl EntC.out dQ (mvalid_spec _ _ _ _) jj)) <| c_flo rfl rfl (fun _ _ _ _ jj => o_guardy rfl rfl (by rw [hvw1]; rfl) dQ (o_not rfl dQ jj)) <| c_flo rfl rfl (fun _ _ _ _ jj => o_pickf rfl (by rw [hvw1]; rfl) rfl dQ jj) <| c_flo rfl rfl (fun _ _ _ _ jj => o_move rfl dQ jj) <| c_flo rfl rfl (fun _ _ _ _ jj => o_guardy rfl rfl (by rw [hvw2]; rfl) dQ (o_faddr rfl rfl dQ dQ jj)) <| c_val rfl rfl (fun _ _ _ _ jj => o_guardy rfl rfl (by rw [hvw2]; rfl) dQ (o_load 0 rfl rfl rfl rfl dQ jj)) ?_
 refine c_flo rfl rfl (fun _ _ _ _ jj => o_guardy rfl rfl (by rw [hvw2]; rfl) dQ (o_call1 rfl rfl EntC.out dQ (total_spec _ (by first | exact hmv.blk | exact hvv.blk) _) jj)) ?_
 refine c_flo rfl rfl (fun _ _ _ _ jj => o_guardy rfl rfl (by rw [hvw2]; rfl) dQ (o_faddr rfl rfl dQ dQ jj)) <| c_val rfl rfl (fun _ _ _ _ jj => o_guardy rfl rfl (by rw [hvw2]; rfl) dQ (o_load 1 rfl rfl rfl rfl dQ jj)) ?_
 refine c_flo rfl rfl (fun _ _ _ _ jj => o_guardy rfl rfl (by rw [hvw2]; rfl) dQ (o_call1 rfl rfl EntC.out dQ (total_spec _ (by first | exact hmv.blk | exact hvv.blk) _) jj)) ?_
 refine c_flo rfl rfl (fun _ _ _ _ jj => o_guardy rfl rfl (by rw [hvw2]; rfl) dQ (o_cmp rfl rfl rfl dQ jj)) <| c_flo rfl rfl (fun _ _ _ _ jj => o_pickf rfl (by rw [hvw2]; rfl) rfl dQ jj) <| c_nil <| h_condf rfl (by rw [hts]; simp) <| h_skip <| h_seq <| h_seq <| h_region <| o_faddr rfl rfl dQ dQ <| o_load 1 rfl rfl rfl rfl dQ <| o_move rfl dQ <| o_move rfl dQ ?_
 refine o_callN rfl rfl EntC.out dQ (near_spec w.blocks hmv.blk w1 a3 a4 ha3 ha4) fun v9 h' hr => ?_
 obtain ⟨⟨m, rfl⟩, rfl⟩ := hr
 refine o_move rfl dQ ?_
 refine o_call1 rfl rfl EntC.out dQ (pickL_spec _ _ (by first | exact ha4 | exact ha5) dQ) ?_
 refine o_buildSlicep rfl (by rfl) (by rfl) (by rfl) (by rfl) dQ ?_
 refine o_len rfl dQ <| o_move rfl dQ <| o_nil <| h_block <| h_famS (ι := {q : Nat // q ≤ 2}) (fun i => [(5, I a5), (13, B true), (14, .ptr x3 0), (16, V (l.map encV) fl), (17, .ptr x4 0), (75, V ([m, pickM a4 61].map encI) true), (76, I ((2 : Nat) : Int)), (77, I (i.1 : Nat))]) (fun i => (x4, .box 32 (cellsW v false false false)) :: (x3, .box 32 (cellsW w w1 w2 w3)) :: []) (fun i => 2 - i.1) ⟨0, Nat.zero_le _⟩ (.cons_cons _ (.cons_cons _ (.cons _ (.refl _)))) (subT.cons rfl (subT.cons rfl (subT.cons rfl (subT.cons rfl (subT.cons rfl (subT.cons rfl (subT.cons rfl (subT.cons rfl subT.nil)))))))) ?_
 rintro ⟨q, hq⟩
 dsimp only
 by_cases hlt : q < 2
 ·
  obtain ⟨hn1, hn2⟩ := hnl ([m, pickM a4 61].getD ((q : Nat) : Int).toNat 0)
  refine h_seq <| h_region <| o_cmp rfl rfl rfl dQ <| o_nil <| h_seq <| h_condt rfl (by simp; omega) ?_
  refine h_skip <| h_seq <| h_block <| h_seq <| h_region <| o_idxv rfl rfl (by omega) (eltIn (by show _ < 2; omega)) rfl dQ <| o_loadv rfl rfl dQ <| o_assign rfl dQ <| o_nil <| h_seq <| h_region <| o_faddr rfl rfl dQ dQ ?_
  refine o_load 1 rfl rfl rfl rfl dQ <| o_move rfl dQ <| o_call1 rfl rfl EntC.out dQ (find_spec w.blocks (by omega) _ _) <| o_move rfl dQ <| o_extract rfl rfl dQ <| o_extract rfl rfl dQ <| o_assign rfl dQ <| o_assign rfl dQ <| o_nil <| h_seq <| h_region <| o_faddr rfl rfl dQ dQ ?_
  refine o_load 0 rfl rfl rfl rfl dQ <| o_move rfl dQ <| o_call1 rfl rfl EntC.out dQ (find_spec v.blocks (by omega) _ _) <| o_move rfl dQ <| o_extract rfl rfl dQ <| o_extract rfl rfl dQ <| o_assign rfl dQ <| o_assign rfl dQ <| o_nil <| h_seq <| h_seq <| h_region ?_
  refine o_move rfl dQ <| o_move rfl dQ <| o_nebb rfl rfl dQ <| o_nil <| h_condf rfl (by rw [hn1]; simp) <| h_skip <| h_seq <| h_seq <| h_region <| o_move rfl dQ <| o_not rfl dQ <| o_nil ?_
  refine h_cond rfl (fun c11 => ?_) (fun c11 => ?_)
  ·
   refine h_exit <| h_region <| o_add rfl rfl (by unfold in64; (try dsimp only); omega) dQ ?_
   refine o_move rfl dQ <| o_nil <| back rfl ⟨q + 1, hlt⟩ (by dsimp only; omega) (.cons_cons _ (.cons_cons _ (.refl _))) (subT.cons rfl (subT.cons rfl (subT.cons rfl (subT.cons rfl (subT.cons rfl (subT.cons rfl (subT.cons rfl (subT.cons rfl subT.nil))))))))
  ·
   refine h_skip <| h_seq ?_
   have his : (findM w.blocks ([m, pickM a4 61].getD ((q : Nat) : Int).toNat 0)).2 = true := by cases h9 : (findM w.blocks ([m, pickM a4 61].getD ((q : Nat) : Int).toNat 0)).2 with | true => rfl | false => rw [h9] at c11; cases c11
   obtain ⟨⟨n0, n1⟩, ⟨k0, k1⟩, k2, ⟨k3, k4⟩, k5⟩ := hn2 his
   have hsu := succM_of (n := ([m, pickM a4 61].getD ((q : Nat) : Int).toNat 0)) (c := (findM w.blocks ([m, pickM a4 61].getD ((q : Nat) : Int).toNat 0)).1) (s := pickM a5 40) hmv (by omega) hps pT.1 (by omega) k0 k1 n0 n1
   refine h_draw _ (List.nil_sublist _) [(0, .val), (1, .flo), (2, .flo), (3, .flo), (4, .flo), (5, .flo), (6, .flo), (7, .flo), (8, .flo), (9, .flo), (10, .flo), (11, .flo)] mixed (by kernel_rfl) <| c_val rfl rfl (fun _ _ _ _ jj => o_load 1 rfl rfl rfl rfl dQ jj) <| c_flo rfl rfl (fun _ _ _ _ jj => o_move rfl dQ jj) <| c_flo rfl rfl (fun _ _ _ _ jj => o_move rfl dQ jj) <| c_flo rfl rfl (fun _ _ _ _ jj => o_move rfl dQ jj) <| c_flo rfl rfl (fun _ _ _ _ jj => o_move rfl dQ jj) ?_
   refine c_flo rfl rfl (fun _ _ _ _ jj => o_call1 rfl rfl EntC.out dQ (pickL_spec _ _ (by first | exact ha4 | exact ha5) dQ) jj) ?_
   refine c_flo rfl rfl (fun _ _ _ _ jj => o_call1 rfl rfl EntC.out dQ (show Fn1 _ _ _ (.tup [I (succN ([m, pickM a4 61].getD ((q : Nat) : Int).toNat 0) (findM w.blocks ([m, pickM a4 61].getD ((q : Nat) : Int).toNat 0)).1 (untilM l (pickM a5 40))), I 0]) from by have h9 := succ_spec w l (by omega) w1 w2 w3 fl (findM w.blocks ([m, pickM a4 61].getD ((q : Nat) : Int).toNat 0)).1 ([m, pickM a4 61].getD ((q : Nat) : Int).toNat 0) (pickM a5 40); rw [hsu] at h9; exact h9) jj) <| c_flo rfl rfl (fun _ _ _ _ jj => o_move rfl dQ jj) <| c_flo rfl rfl (fun _ _ _ _ jj => o_extract rfl rfl dQ jj) <| c_flo rfl rfl (fun _ _ _ _ jj => o_extract rfl rfl dQ jj) <| c_flo rfl rfl (fun _ _ _ _ jj => o_assign rfl dQ jj) <| c_flo rfl rfl (fun _ _ _ _ jj => o_assign rfl dQ jj) <| c_nil <| h_seq <| h_region <| o_move rfl dQ <| o_cmp rfl rfl rfl dQ <| o_move rfl dQ ?_
   refine o_guardy rfl rfl dQ dQ <| o_move rfl dQ <| o_guardy rfl rfl dQ dQ <| o_move rfl dQ <| o_guardy rfl rfl dQ dQ <| o_cmp rfl rfl rfl dQ <| o_pickf rfl dQ rfl dQ <| o_move rfl dQ <| o_guardy rfl rfl (by rw [k2]; simp) dQ <| o_faddr rfl rfl dQ dQ <| o_guardy rfl rfl (by rw [k2]; simp) dQ <| o_load 0 rfl rfl rfl rfl dQ ?_
   refine o_guardy rfl rfl (by rw [k2]; simp) dQ <| o_move rfl dQ <| o_guardy rfl rfl (by rw [k2]; simp) dQ ?_
   refine o_call1 rfl rfl EntC.out dQ (bitL_spec _ _ (by omega) (by omega)) <| o_guardy rfl rfl (by rw [k2]; simp) dQ <| o_not rfl dQ <| o_pickf rfl (by rw [k2]; simp) rfl dQ <| o_nil <| h_condf rfl (by rw [k5]; rfl) <| h_skip <| h_region <| o_add rfl rfl (by unfold in64; (try dsimp only); omega) dQ ?_
   refine o_move rfl dQ <| o_nil <| back rfl ⟨q + 1, hlt⟩ (by dsimp only; omega) (.cons_cons _ (.cons_cons _ (.refl _))) (subT.cons rfl (subT.cons rfl (subT.cons rfl (subT.cons rfl (subT.cons rfl (subT.cons rfl (subT.cons rfl (subT.cons rfl subT.nil))))))))
 ·
  refine h_seq <| h_region <| o_cmp rfl rfl rfl dQ <| o_nil <| h_seq <| h_condf rfl (by simp <;> omega) ?_
  exact h_exit <| h_seq <| h_region <| o_move rfl dQ <| o_assign rfl dQ <| o_nil <| h_ret <| ret1' rfl (B_eq (by simp_all))

end Go.Proofs.YtnoicbajhlpndaaGreat
