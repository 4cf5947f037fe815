/- Maps as functions: who holds a number. What combine returns holds what it should, and a map is known by who holds what in it. -/
import Derived.Test.YtnoicbajhlpndaaGreatRefC
namespace Go.Proofs.YtnoicbajhlpndaaGreat
open Go Go.RowKit Go.Shelf Hp
set_option maxRecDepth 10000
set_option maxHeartbeats 1000000
set_option linter.unusedVariables false
set_option linter.unusedSimpArgs false
attribute [local irreducible] WP WPs FnX IterX YdX RetP PanP Ch Back Join
/-- Who holds a number in a list of blocks. -/
def hd (m : Int) : List Blk → Int
  | [] => -1
  | b :: r => if b.t ≤ m then hd m r else if m < b.f then -1 else b.c
theorem atM_cons (n : Int) (b : Blk) (r : List Blk) : atM n (b :: r) = if b.t ≤ n then atM n r else if n < b.f then (-1, b.f) else (b.c, b.t) := by
  simp only [atM, dw]
  by_cases h : b.t ≤ n
  · rw [if_pos h, if_pos h]
  · rw [if_neg h, if_neg h]
theorem atM_hd (n : Int) : ∀ l : List Blk, (atM n l).1 = hd n l
  | [] => rfl
  | b :: r => by rw [atM_cons]; simp only [hd]; split; exact atM_hd n r; split <;> rfl
/-- A list of blocks in order, behind a block that ends at e and is c's. -/
def Can : Int → Int → List Blk → Prop
  | _, _, [] => True
  | e, c, b :: r => e ≤ b.f ∧ b.f < b.t ∧ b.t ≤ 100000000 ∧ 0 ≤ b.c ∧ b.c ≤ 7 ∧ ¬(b.f = e ∧ b.c = c) ∧ Can b.t b.c r
theorem can_of : ∀ (l : List Blk) (z : Blk), (∀ k, k < l.length → badB ((z :: l).getD k dB) (l.getD k dB) = false) → Can z.t z.c l
  | [], _, _ => trivial
  | b :: r, z, h => by
    have h0 := h 0 (by simp)
    simp only [List.getD_cons_zero, badB, rangeOk, carOk, Bool.or_eq_false_iff, Bool.not_eq_false', decide_eq_true_eq, decide_eq_false_iff_not, Bool.and_eq_false_iff] at h0
    obtain ⟨⟨⟨h1, h2⟩, h3⟩, h4⟩ := h0
    refine ⟨by omega, by omega, by omega, by omega, by omega, by omega, can_of r b fun k hk => ?_⟩
    have := h (k + 1) (by simpa using hk)
    simpa only [List.getD_cons_succ] using this
theorem valid_can {l : List Blk} (h : validB l = true) : Can 0 (-1) l := by
  simp only [validB, Bool.and_eq_true, decide_eq_true_eq, Bool.not_eq_true', List.any_eq_false, List.mem_range] at h
  refine can_of l ⟨0, 0, -1⟩ fun k hk => ?_
  have := h.2 k hk
  simp only [badAt, Bool.not_eq_true] at this
  cases k with
  | zero => exact this
  | succ k => simpa only [lastB, List.getD_cons_succ] using this
theorem hd_lt {m : Int} : ∀ {e c : Int} {l : List Blk}, Can e c l → m < e → hd m l = -1
  | _, _, [], _, _ => rfl
  | _, _, b :: r, h, hm => by obtain ⟨h1, h2, _⟩ := h; simp only [hd]; rw [if_neg (by omega), if_pos (by omega)]
theorem hd_rng {m : Int} : ∀ {e c : Int} {l : List Blk}, Can e c l → hd m l = -1 ∨ (0 ≤ hd m l ∧ hd m l ≤ 7)
  | _, _, [], _ => .inl rfl
  | _, _, b :: r, h => by
    obtain ⟨h1, h2, h3, h4, h5, h6, h7⟩ := h
    simp only [hd]; split; exact hd_rng h7; split; exact .inl rfl; exact .inr ⟨h4, h5⟩
/-- Maps in which the same numbers are held by the same are the same. -/
theorem can_eq : ∀ {l1 l2 : List Blk} {e c : Int}, Can e c l1 → Can e c l2 → (∀ m, e ≤ m → m < 100000000 → hd m l1 = hd m l2) → l1 = l2
  | [], [], _, _, _, _, _ => rfl
  | [], b :: r, e, c, _, h2, h => by
    obtain ⟨g1, g2, g3, g4, g5, g6, g7⟩ := h2
    have := h b.f g1 (by omega)
    simp only [hd] at this; rw [if_neg (by omega), if_neg (by omega)] at this; omega
  | b :: r, [], e, c, h1, _, h => by
    obtain ⟨g1, g2, g3, g4, g5, g6, g7⟩ := h1
    have := h b.f g1 (by omega)
    simp only [hd] at this; rw [if_neg (by omega), if_neg (by omega)] at this; omega
  | b :: r, b' :: r', e, c, h1, h2, h => by
    obtain ⟨g1, g2, g3, g4, g5, g6, g7⟩ := h1
    obtain ⟨k1, k2, k3, k4, k5, k6, k7⟩ := h2
    have ef : b.f = b'.f := by
      rcases Int.lt_trichotomy b.f b'.f with hl | hl | hl
      · have := h b.f g1 (by omega)
        simp only [hd] at this; rw [if_neg (by omega), if_neg (by omega), if_neg (by omega), if_pos (by omega)] at this; omega
      · exact hl
      · have := h b'.f k1 (by omega)
        simp only [hd] at this; rw [if_neg (by omega), if_pos (by omega), if_neg (by omega), if_neg (by omega)] at this; omega
    have ec : b.c = b'.c := by
      have := h b.f g1 (by omega)
      simp only [hd] at this; rw [if_neg (by omega), if_neg (by omega), if_neg (by omega), if_neg (by omega)] at this; exact this
    have adj : ∀ {t x : Int} {q : List Blk}, Can t x q → 0 ≤ x → hd t q ≠ x := by
      intro t x q hq hx
      cases q with
      | nil => simp only [hd]; omega
      | cons z q =>
        obtain ⟨z1, z2, z3, z4, z5, z6, z7⟩ := hq
        simp only [hd]; rw [if_neg (by omega)]
        split
        · omega
        · intro hz; exact z6 ⟨by omega, hz⟩
    have et : b.t = b'.t := by
      rcases Int.lt_trichotomy b.t b'.t with hl | hl | hl
      · have := h b.t (by omega) (by omega)
        simp only [hd] at this; rw [if_pos (by omega), if_neg (by omega), if_neg (by omega)] at this
        exact absurd (this.trans ec.symm) (adj g7 g4)
      · exact hl
      · have := h b'.t (by omega) (by omega)
        simp only [hd] at this; rw [if_neg (by omega), if_neg (by omega), if_pos (by omega)] at this
        exact absurd (this.symm.trans ec) (adj k7 k4)
    have eb : b = b' := by cases b; cases b'; simp_all
    subst eb
    congr 1
    refine can_eq g7 k7 fun m hm1 hm2 => ?_
    have := h m (by omega) hm2
    simp only [hd] at this; rwa [if_pos hm1, if_pos hm1] at this
/-! ### what combine holds -/
theorem hd_snoc {m : Int} {z : Blk} (hz : z.f < z.t) : ∀ {l : List Blk}, (∀ b ∈ l, b.t ≤ z.f) → hd m (l ++ [z]) = if m < z.f then hd m l else if m < z.t then z.c else -1
  | [], _ => by
    simp only [List.nil_append, hd]
    split
    · rw [if_neg (by omega), if_neg (by omega)]
    · split
      · rfl
      · rw [if_pos (by omega)]
  | b :: l, h => by
    have ih := hd_snoc (m := m) hz (l := l) fun x hx => h x (List.mem_cons_of_mem _ hx)
    have hb := h b List.mem_cons_self
    simp only [List.cons_append, hd]
    split
    · exact ih
    · rw [if_pos (show m < z.f by omega)]
/-- The pieces so far make a list of blocks up to n. -/
def Asc (n : Int) (out : List Blk) : Prop := out = [] ∨ ∃ l z, out = l ++ [z] ∧ (∀ b ∈ l, b.t ≤ z.f) ∧ z.f < z.t ∧ z.t ≤ n
theorem asc_out {n m : Int} {out : List Blk} (h : Asc n out) (hm : n ≤ m) : hd m out = -1 := by
  obtain rfl | ⟨l, z, rfl, h1, h2, h3⟩ := h
  · rfl
  · rw [hd_snoc h2 h1, if_neg (by omega), if_neg (by omega)]
theorem asc_le {n : Int} {out : List Blk} (h : Asc n out) : ∀ b ∈ out, b.t ≤ n := by
  obtain rfl | ⟨l, z, rfl, h1, h2, h3⟩ := h
  · simp
  · intro b hb
    rcases List.mem_append.1 hb with hb | hb
    · have := h1 b hb; omega
    · cases List.mem_singleton.1 hb; exact h3
theorem addP_step {hol : Int → Int → Int} {n n' x y : Int} {out : List Blk} (hn : n < n') (h : Asc n out) :
    Asc n' (addP hol out (n, n', x, y)) ∧ ∀ m, hd m (addP hol out (n, n', x, y)) = if n ≤ m ∧ m < n' then hol x y else hd m out := by
  simp only [addP]
  split
  · rename_i hk
    refine ⟨?_, fun m => ?_⟩
    · obtain h | ⟨l, z, h0, h1, h2, h3⟩ := h
      · exact .inl h
      · exact .inr ⟨l, z, h0, h1, h2, by omega⟩
    · split
      · rw [asc_out h (by omega), hk]
      · rfl
  · rename_i hk
    obtain rfl | ⟨l, z, rfl, h1, h2, h3⟩ := id h
    · simp only [List.getLast?_nil]
      refine ⟨.inr ⟨[], _, rfl, by simp, hn, Int.le_refl _⟩, fun m => ?_⟩
      simp only [hd]
      split
      · rw [if_neg (by omega)]
      · split
        · rw [if_neg (by omega)]
        · rw [if_pos (by omega)]
    · simp only [List.getLast?_concat, List.dropLast_concat]
      split
      · rename_i hz
        refine ⟨.inr ⟨l, _, rfl, h1, by dsimp only; omega, Int.le_refl _⟩, fun m => ?_⟩
        rw [hd_snoc (z := ⟨z.f, n', z.c⟩) (by dsimp only; omega) h1, hd_snoc h2 h1]
        dsimp only
        split
        · rw [if_neg (by omega)]
        · split
          · split
            · exact hz.2
            · rw [if_pos (by omega)]
          · rw [if_neg (by omega), if_neg (by omega)]
      · refine ⟨.inr ⟨l ++ [z], _, rfl, asc_le h, hn, Int.le_refl _⟩, fun m => ?_⟩
        rw [hd_snoc (z := ⟨n, n', hol x y⟩) hn (asc_le h)]
        dsimp only
        split
        · rw [if_neg (by omega)]
        · split
          · rw [if_pos (by omega)]
          · rw [if_neg (by omega), asc_out h (by omega)]
theorem atM_const {n m : Int} : ∀ {l : List Blk} {e c : Int}, Can e c l → n ≤ m → m < (atM n l).2 → hd m l = hd n l
  | [], _, _, _, _, _ => rfl
  | b :: r, _, _, h, hn, hm => by
    obtain ⟨g1, g2, g3, g4, g5, g6, g7⟩ := h
    rw [atM_cons] at hm
    simp only [hd]
    split at hm
    · rw [if_pos (by omega), if_pos (by omega)]; exact atM_const g7 hn hm
    · split at hm
      · dsimp only at hm; rw [if_neg (by omega), if_pos (by omega), if_neg (by omega), if_pos (by omega)]
      · dsimp only at hm; rw [if_neg (by omega), if_neg (by omega), if_neg (by omega), if_neg (by omega)]
theorem foldP_hd {hol : Int → Int → Int} {a b : List Blk} {ea ca eb cb : Int} (ha : Can ea ca a) (hb : Can eb cb b) : ∀ (k : Nat) (n : Int) (out : List Blk), (100000000 - n).toNat ≤ k → Asc n out → (∀ m, 0 ≤ m → m < n → hd m out = hol (hd m a) (hd m b)) →
    ∀ m, 0 ≤ m → m < 100000000 → hd m ((pcs k n a b).foldl (addP hol) out) = hol (hd m a) (hd m b)
  | 0, n, out, hk, _, ho, m, h0, h1 => by simp only [pcs, List.foldl_nil]; exact ho m h0 (by omega)
  | k + 1, n, out, hk, hs, ho, m, h0, h1 => by
    simp only [pcs]
    split
    · rename_i hn
      have ga := atM_gt hn a
      have gb := atM_gt hn b
      have hlt : n < nextM n a b := by simp only [nextM]; omega
      obtain ⟨hs', hh⟩ := addP_step (hol := hol) (x := (atM n a).1) (y := (atM n b).1) hlt hs
      rw [List.foldl_cons]
      refine foldP_hd ha hb k _ _ (by omega) hs' (fun j hj0 hj1 => ?_) m h0 h1
      rw [hh j]
      split
      · rename_i hj
        rw [atM_hd, atM_hd, atM_const (n := n) ha hj.1 (by simp only [nextM] at hj; omega), atM_const (n := n) hb hj.1 (by simp only [nextM] at hj; omega)]
      · exact ho j hj0 (by omega)
    · simp only [List.foldl_nil]; exact ho m h0 (by omega)
theorem comb_hd {hol : Int → Int → Int} {a b : List Blk} {ea ca eb cb : Int} (ha : Can ea ca a) (hb : Can eb cb b) {m : Int} (h0 : 0 ≤ m) (h1 : m < 100000000) : hd m (combOut a b hol) = hol (hd m a) (hd m b) :=
  foldP_hd ha hb 100000000 0 [] dQ (.inl rfl) (fun m h0 h1 => by omega) m h0 h1
theorem combM_hd {hol : Int → Int → Int} {a b : List Blk} {ea ca eb cb : Int} (ha : Can ea ca a) (hb : Can eb cb b) (h2 : ¬ (combM a b hol).2 ≠ 0) {m : Int} (h0 : 0 ≤ m) (h1 : m < 100000000) : hd m (combM a b hol).1 = hol (hd m a) (hd m b) := by
  unfold combM at h2 ⊢
  split
  · rename_i h; rw [if_pos h] at h2; simp at h2
  · exact comb_hd ha hb h0 h1
/-! ### bits -/
theorem and_le {x y : Int} (h0 : 0 ≤ y) (h1 : y ≤ 255) : bits64 .and x y ≤ 255 := by
  obtain ⟨n, rfl⟩ := Int.eq_ofNat_of_zero_le h0
  simp only [bits64]
  have h2 : ((BitVec.ofInt 64 x &&& BitVec.ofInt 64 (n : Int)).toNat : Nat) ≤ 255 := by
    rw [BitVec.toNat_and]
    refine Nat.le_trans Nat.and_le_right ?_
    rw [show (BitVec.ofInt 64 (n : Int)) = BitVec.ofNat 64 n from by simp, BitVec.toNat_ofNat]
    have : n < 2 ^ 64 := by omega
    rw [Nat.mod_eq_of_lt this]; omega
  rw [show IntKind.i64.wrap ((BitVec.ofInt 64 x &&& BitVec.ofInt 64 (n : Int)).toNat : Nat) = ((BitVec.ofInt 64 x &&& BitVec.ofInt 64 (n : Int)).toNat : Nat) from Hp.wrap_in (by unfold in64; omega)]
  omega
end Go.Proofs.YtnoicbajhlpndaaGreat
/- What an event does to a world, and that two events without a common carrier may change places. -/
namespace Go.Proofs.YtnoicbajhlpndaaGreat
open Go Go.RowKit Go.Shelf Hp
set_option maxRecDepth 10000
set_option maxHeartbeats 1000000
set_option linter.unusedVariables false
set_option linter.unusedSimpArgs false
attribute [local irreducible] WP WPs FnX IterX YdX RetP PanP Ch Back Join
def inV (e : Ev) (m : Int) : Prop := e.f ≤ m ∧ m < e.to
instance (e : Ev) (m : Int) : Decidable (inV e m) := inferInstanceAs (Decidable (_ ∧ _))
theorem hd_one (f t : Int) (h : f < t) (m : Int) : hd m [⟨f, t, 0⟩] = if f ≤ m ∧ m < t then 0 else -1 := by
  simp only [hd]
  split
  · rw [if_neg (by omega)]
  · split
    · rw [if_neg (by omega)]
    · rw [if_pos (by omega)]
theorem can_one {f t : Int} (h : rangeOk f t = true) : Can 0 (-1) [⟨f, t, 0⟩] := by
  simp only [rangeOk, decide_eq_true_eq] at h
  exact ⟨by dsimp only; omega, by dsimp only; omega, by dsimp only; omega, by simp, by simp, by simp, trivial⟩
theorem swap_hd {l : List Blk} {f t : Int} (h : ¬ (swapB l f t).2 ≠ 0) : validB l = true ∧ carOk f = true ∧ ∀ m, 0 ≤ m → m < 100000000 → hd m (swapB l f t).1 = if hd m l = f then t else hd m l := by
  unfold swapB at h ⊢
  split at h
  · simp at h
  · rename_i hc
    simp only [Bool.or_eq_true, Bool.not_eq_true', not_or, Bool.not_eq_false] at hc
    refine ⟨hc.1.1, hc.1.2, fun m h0 h1 => ?_⟩
    rw [if_neg (by simp [hc.1.1, hc.1.2, hc.2]), combM_hd (valid_can hc.1.1) (eb := 0) (cb := -1) (by simp only [Can]) h h0 h1]; rfl
theorem carOk_iff {c : Int} : carOk c = true ↔ 0 ≤ c ∧ c ≤ 7 := by simp [carOk]
/-! ### lists of eight numbers that an event changes in its own places -/
/-- A change of a list in some places, that depends on these places only. -/
structure Loc (U : Nat → Prop) (F : List Int → List Int) : Prop where
  len : ∀ l, (F l).length = l.length
  out : ∀ l i, ¬ U i → (F l).getD i 0 = l.getD i 0
  dep : ∀ l l' : List Int, l.length = l'.length → (∀ i, U i → l.getD i 0 = l'.getD i 0) → ∀ i, U i → (F l).getD i 0 = (F l').getD i 0
theorem getD_set {l : List Int} {i j : Nat} {v : Int} : (l.set i v).getD j 0 = if i = j ∧ i < l.length then v else l.getD j 0 := by
  simp only [List.getD_eq_getElem?_getD, List.getElem?_set]
  split
  · rename_i h; subst h
    split
    · rename_i h; rw [if_pos ⟨rfl, h⟩]; rfl
    · rename_i h; rw [if_neg (by omega), List.getElem?_eq_none (by omega)]
  · rename_i h; rw [if_neg (by omega)]
theorem Loc.set {U : Nat → Prop} {i : Nat} (hi : U i) {v : List Int → Int} (hv : ∀ l l' : List Int, l.length = l'.length → (∀ i, U i → l.getD i 0 = l'.getD i 0) → v l = v l') : Loc U fun l => l.set i (v l) where
  len l := by simp
  out l j hj := by rw [getD_set, if_neg (by rintro ⟨rfl, _⟩; exact hj hi)]
  dep l l' hl h j hj := by rw [getD_set, getD_set, hl, hv l l' hl h, h j hj]
theorem Loc.comm {U W : Nat → Prop} {F G : List Int → List Int} (hF : Loc U F) (hG : Loc W G) (hd : ∀ i, U i → W i → False) [DecidablePred U] [DecidablePred W] (l : List Int) : G (F l) = F (G l) := by
  refine ext_getD (d := 0) (by rw [hG.len, hF.len, hF.len, hG.len]) fun i _ => ?_
  by_cases hu : U i
  · rw [hG.out _ _ (fun h => hd i hu h)]
    exact hF.dep _ _ (by rw [hG.len]) (fun j hj => (hG.out _ _ fun h => hd j hj h).symm) i hu
  · rw [hF.out _ _ hu]
    by_cases hw : W i
    · exact hG.dep _ _ (by rw [hF.len]) (fun j hj => hF.out _ _ fun h => hd j h hj) i hw
    · rw [hG.out _ _ hw, hG.out _ _ hw, hF.out _ _ hu]
/-! ### the law -/
theorem alive_range {w : Wd} (h : VParts w) : 0 ≤ w.alive ∧ w.alive ≤ 255 := by
  refine ⟨h.pos, ?_⟩
  have := h.ever
  simp only [inM, Bool.and_eq_true, decide_eq_true_eq] at this
  rw [← h.sub]; exact and_le this.1 this.2
end Go.Proofs.YtnoicbajhlpndaaGreat
/- Maps as functions: what combine returns is in order, and how many blocks it has. -/
namespace Go.Proofs.YtnoicbajhlpndaaGreat
open Go Go.RowKit Go.Shelf Hp
set_option maxRecDepth 10000
set_option maxHeartbeats 1000000
set_option linter.unusedVariables false
set_option linter.unusedSimpArgs false
attribute [local irreducible] WP WPs FnX IterX YdX RetP PanP Ch Back Join
/-- Where a list of blocks ends, and whose its last block is. -/
def endC : Int → Int → List Blk → Int × Int
  | e, c, [] => (e, c)
  | _, _, b :: r => endC b.t b.c r
theorem can_snoc : ∀ {l : List Blk} {e c : Int} {z : Blk}, Can e c (l ++ [z]) ↔ Can e c l ∧ ((endC e c l).1 ≤ z.f ∧ z.f < z.t ∧ z.t ≤ 100000000 ∧ 0 ≤ z.c ∧ z.c ≤ 7 ∧ ¬(z.f = (endC e c l).1 ∧ z.c = (endC e c l).2))
  | [], e, c, z => by simp [Can, endC]
  | b :: r, e, c, z => by simp only [List.cons_append, Can, endC]; rw [can_snoc (l := r)]; simp only [and_assoc]
theorem endC_snoc : ∀ {l : List Blk} {e c : Int} {z : Blk}, endC e c (l ++ [z]) = (z.t, z.c)
  | [], _, _, _ => rfl
  | _ :: r, _, _, z => by simp only [List.cons_append, endC]; exact endC_snoc (l := r)
/-- The map so far: in order, up to n. -/
def Run (n : Int) (out : List Blk) : Prop := Can 0 (-1) out ∧ (endC 0 (-1) out).1 ≤ n
theorem addP_can {hol : Int → Int → Int} {n n' x y : Int} {out : List Blk} (h0 : 0 ≤ n) (hn : n < n') (hm : n' ≤ 100000000) (hk : hol x y = -1 ∨ (0 ≤ hol x y ∧ hol x y ≤ 7)) (h : Run n out) : Run n' (addP hol out (n, n', x, y)) := by
  obtain ⟨hc, he⟩ := h
  simp only [addP]
  split
  · exact ⟨hc, by omega⟩
  · rename_i hne
    rcases List.eq_nil_or_concat out with rfl | ⟨l, z, rfl⟩
    · simp only [List.getLast?_nil]
      refine ⟨?_, by simp [endC]⟩
      show 0 ≤ n ∧ n < n' ∧ n' ≤ 100000000 ∧ 0 ≤ hol x y ∧ hol x y ≤ 7 ∧ ¬(n = 0 ∧ hol x y = -1) ∧ Can n' (hol x y) []
      exact ⟨h0, hn, hm, by omega, by omega, by omega, trivial⟩
    · rw [List.concat_eq_append] at hc he ⊢
      simp only [List.getLast?_concat, List.dropLast_concat]
      rw [endC_snoc] at he
      dsimp only at he
      have hz := can_snoc.1 hc
      split
      · refine ⟨can_snoc.2 ⟨hz.1, ?_⟩, by rw [endC_snoc]; exact Int.le_refl _⟩
        dsimp only; omega
      · rename_i hd
        refine ⟨can_snoc.2 ⟨hc, ?_⟩, by rw [endC_snoc]; exact Int.le_refl _⟩
        rw [endC_snoc]; dsimp only; omega
theorem atM_le (n : Int) : ∀ {l : List Blk} {e c : Int}, Can e c l → (atM n l).2 ≤ 100000000
  | [], _, _, _ => by simp [atM, dw]
  | b :: r, _, _, h => by
    obtain ⟨g1, g2, g3, g4, g5, g6, g7⟩ := h
    rw [atM_cons]; split
    · exact atM_le n g7
    · split <;> (dsimp only; omega)
theorem foldP_can {hol : Int → Int → Int} {a b : List Blk} {ea ca eb cb : Int} (ha : Can ea ca a) (hb : Can eb cb b) (hr : ∀ x y, (x = -1 ∨ (0 ≤ x ∧ x ≤ 7)) → (y = -1 ∨ (0 ≤ y ∧ y ≤ 7)) → hol x y = -1 ∨ (0 ≤ hol x y ∧ hol x y ≤ 7)) :
    ∀ (k : Nat) (n : Int) (out : List Blk), 0 ≤ n → Run n out → Can 0 (-1) ((pcs k n a b).foldl (addP hol) out)
  | 0, n, out, _, h => by simp only [pcs, List.foldl_nil]; exact h.1
  | k + 1, n, out, h0, h => by
    simp only [pcs]
    split
    · rename_i hn
      have ga := atM_gt hn a
      have gb := atM_gt hn b
      have la := atM_le n ha
      rw [List.foldl_cons]
      refine foldP_can ha hb hr k _ _ (by simp only [nextM]; omega) (addP_can h0 (by simp only [nextM]; omega) (by simp only [nextM]; omega) ?_ h)
      rw [atM_hd, atM_hd]
      exact hr _ _ (hd_rng ha) (hd_rng hb)
    · simp only [List.foldl_nil]; exact h.1
theorem comb_can {hol : Int → Int → Int} {a b : List Blk} {ea ca eb cb : Int} (ha : Can ea ca a) (hb : Can eb cb b) (hr : ∀ x y, (x = -1 ∨ (0 ≤ x ∧ x ≤ 7)) → (y = -1 ∨ (0 ≤ y ∧ y ≤ 7)) → hol x y = -1 ∨ (0 ≤ hol x y ∧ hol x y ≤ 7)) : Can 0 (-1) (combOut a b hol) :=
  foldP_can ha hb hr _ 0 [] (by omega) ⟨trivial, by simp [endC]⟩
/-! ### where blocks begin -/
theorem fs_lt : ∀ {l : List Blk} {e c : Int}, Can e c l → ∀ n ∈ l.map Blk.f, e ≤ n ∧ n < 100000000
  | [], _, _, _, n, hn => by simp at hn
  | b :: r, e, c, h, n, hn => by
    obtain ⟨g1, g2, g3, g4, g5, g6, g7⟩ := h
    rcases List.mem_cons.1 hn with rfl | hn
    · omega
    · have := fs_lt g7 n hn; omega
theorem fs_nodup : ∀ {l : List Blk} {e c : Int}, Can e c l → (l.map Blk.f).Nodup
  | [], _, _, _ => List.nodup_nil
  | b :: r, e, c, h => by
    obtain ⟨g1, g2, g3, g4, g5, g6, g7⟩ := h
    rw [List.map_cons, List.nodup_cons]
    refine ⟨fun hm => ?_, fs_nodup g7⟩
    have := fs_lt g7 _ hm; omega
/-- A block begins where its carrier begins to hold. -/
theorem start_iff {n : Int} : ∀ {l : List Blk} {e c : Int}, Can e c l → (n ∈ l.map Blk.f ↔ 0 ≤ hd n l ∧ (if n = e then c else hd (n - 1) l) ≠ hd n l)
  | [], e, c, _ => by simp [hd]
  | b :: r, e, c, h => by
    obtain ⟨g1, g2, g3, g4, g5, g6, g7⟩ := id h
    have ih := start_iff (n := n) g7
    rw [List.map_cons, List.mem_cons, ih]
    rcases Int.lt_trichotomy n b.f with hl | hl | hl
    · have e1 : hd n (b :: r) = -1 := by simp only [hd]; rw [if_neg (by omega), if_pos (by omega)]
      have e2 : hd n r = -1 := hd_lt g7 (by omega)
      rw [e1, e2]; constructor
      · rintro (h1 | h1); omega; omega
      · rintro ⟨h1, _⟩; omega
    · subst hl
      have e1 : hd b.f (b :: r) = b.c := by simp only [hd]; rw [if_neg (by omega), if_neg (by omega)]
      rw [e1]
      refine ⟨fun _ => ⟨g4, ?_⟩, fun _ => .inl rfl⟩
      split
      · rename_i he; intro hc; exact g6 ⟨he, hc.symm⟩
      · rename_i he
        rw [hd_lt (e := b.f) (c := -1) (l := b :: r) ⟨Int.le_refl _, g2, g3, g4, g5, by omega, g7⟩ (by omega)]; omega
    · have hne : ¬ n = e := by omega
      rw [if_neg hne]
      rcases Int.lt_trichotomy n b.t with hr | hr | hr
      · have e1 : hd n (b :: r) = b.c := by simp only [hd]; rw [if_neg (by omega), if_neg (by omega)]
        have e3 : hd (n - 1) (b :: r) = b.c := by simp only [hd]; rw [if_neg (by omega), if_neg (by omega)]
        have e2 : hd n r = -1 := hd_lt g7 (by omega)
        rw [e1, e2, e3]; constructor
        · rintro (h1 | h1); omega; omega
        · rintro ⟨_, h1⟩; exact absurd rfl h1
      · subst hr
        have e1 : hd b.t (b :: r) = hd b.t r := by simp only [hd]; rw [if_pos (by omega)]
        have e3 : hd (b.t - 1) (b :: r) = b.c := by simp only [hd]; rw [if_neg (by omega), if_neg (by omega)]
        rw [e1, e3, if_pos rfl]
        constructor
        · rintro (h1 | h1); omega; exact h1
        · exact fun h1 => .inr h1
      · have e1 : hd n (b :: r) = hd n r := by simp only [hd]; rw [if_pos (by omega)]
        have e3 : hd (n - 1) (b :: r) = hd (n - 1) r := by simp only [hd]; rw [if_pos (by omega)]
        rw [e1, e3, if_neg (by omega)]
        constructor
        · rintro (h1 | h1); omega; exact h1
        · exact fun h1 => .inr h1
theorem start0 {n : Int} {l : List Blk} (h : Can 0 (-1) l) : n ∈ l.map Blk.f ↔ 0 ≤ hd n l ∧ hd (n - 1) l ≠ hd n l := by
  rw [start_iff h]
  split
  · rename_i h0; subst h0; rw [hd_lt (m := 0 - 1) h (by omega)]
  · rfl
theorem len_sub : ∀ {l s : List Int}, l.Nodup → (∀ x ∈ l, x ∈ s) → l.length ≤ s.length
  | [], _, _, _ => Nat.zero_le _
  | a :: l, s, hn, hs => by
    obtain ⟨h1, h2⟩ := List.nodup_cons.1 hn
    have ha := hs a List.mem_cons_self
    have := len_sub (s := s.erase a) h2 fun x hx => (List.mem_erase_of_ne (by rintro rfl; exact h1 hx)).2 (hs x (List.mem_cons_of_mem _ hx))
    rw [List.length_erase_of_mem ha] at this
    have := List.length_pos_of_mem ha
    simp only [List.length_cons]; omega
/-- A map has at most as many blocks as there are places where they may begin. -/
theorem len_starts {l : List Blk} {s : List Int} (h : Can 0 (-1) l) (hs : ∀ n, 0 ≤ n → n < 100000000 → 0 ≤ hd n l → hd (n - 1) l ≠ hd n l → n ∈ s) : l.length ≤ s.length := by
  have := len_sub (fs_nodup h) fun x hx => by
    obtain ⟨h1, h2⟩ := fs_lt h x hx
    obtain ⟨h3, h4⟩ := (start0 h).1 hx
    exact hs x h1 h2 h3 h4
  simpa using this
theorem can_valid {l : List Blk} (h : Can 0 (-1) l) (hl : l.length ≤ 40) : validB l = true := by
  have key : ∀ (l : List Blk) (z : Blk), 0 ≤ z.t → Can z.t z.c l → ∀ k, k < l.length → badB ((z :: l).getD k dB) (l.getD k dB) = false := by
    intro l
    induction l with
    | nil => intro z _ _ k hk; simp at hk
    | cons b r ih =>
      intro z hz0 hc k hk
      obtain ⟨g1, g2, g3, g4, g5, g6, g7⟩ := hc
      cases k with
      | zero =>
        simp only [List.getD_cons_zero, badB, rangeOk, carOk, Bool.or_eq_false_iff, Bool.not_eq_false', decide_eq_true_eq, decide_eq_false_iff_not, Bool.and_eq_false_iff]
        refine ⟨⟨⟨?_, ?_⟩, ?_⟩, ?_⟩ <;> omega
      | succ k => simp only [List.getD_cons_succ]; exact ih b (by omega) g7 k (by simpa using hk)
  simp only [validB, Bool.and_eq_true, decide_eq_true_eq, Bool.not_eq_true', List.any_eq_false, List.mem_range]
  refine ⟨hl, fun k hk => ?_⟩
  have := key l ⟨0, 0, -1⟩ (Int.le_refl _) h k hk
  simp only [badAt, Bool.not_eq_true]
  cases k with
  | zero => exact this
  | succ k => simpa only [lastB, List.getD_cons_succ] using this
end Go.Proofs.YtnoicbajhlpndaaGreat
/- Maps as functions: the reference's combine. -/
namespace Go.Proofs.YtnoicbajhlpndaaGreat
open Go Go.RowKit Go.Shelf Hp
set_option maxRecDepth 10000
set_option maxHeartbeats 1000000
set_option linter.unusedVariables false
set_option linter.unusedSimpArgs false
attribute [local irreducible] WP WPs FnX IterX YdX RetP PanP Ch Back Join
theorem badB_iff (z b : Blk) : badB z b = true ↔ ¬((0 ≤ b.f ∧ b.f < b.t ∧ b.t ≤ 100000000) ∧ (0 ≤ b.c ∧ b.c ≤ 7) ∧ ¬ b.f < z.t ∧ ¬(b.f = z.t ∧ b.c = z.c)) := by
  simp only [badB, rangeOk, carOk, Bool.or_eq_true, Bool.not_eq_true', decide_eq_true_eq, decide_eq_false_iff_not, Bool.and_eq_true]
  omega
theorem rbad_iff (l : List Blk) (k : Nat) (z b : Blk) (hb : l.getD k dB = b) (hz : l.getD (k - 1) dB = z) : rbad l k = true ↔ ¬((0 ≤ b.f ∧ b.f < b.t ∧ b.t ≤ 100000000) ∧ (0 ≤ b.c ∧ b.c ≤ 7) ∧ (0 < k → ¬ b.f < z.t ∧ ¬(b.f = z.t ∧ b.c = z.c))) := by
  simp only [rbad, hb, hz, rangeOk, carOk, Bool.or_eq_true, Bool.not_eq_true', decide_eq_true_eq, decide_eq_false_iff_not, Bool.and_eq_true]
  omega
theorem rvalid_eq (l : List Blk) : rvalid l = validB l := by
  have h : ∀ k, k < l.length → rbad l k = badAt l k := by
    intro k hk
    rw [Bool.eq_iff_iff, badAt, badB_iff, rbad_iff l k _ _ rfl rfl]
    generalize l.getD k dB = b
    cases k with
    | zero => simp only [lastB]; omega
    | succ k => simp only [lastB, Nat.add_sub_cancel]; generalize l.getD k dB = z; omega
  unfold rvalid validB
  congr 2
  rw [Bool.eq_iff_iff, List.any_eq_true, List.any_eq_true]
  constructor <;> (rintro ⟨k, hk, hb⟩; have hk' := List.mem_range.1 hk; exact ⟨k, hk, by first | (rw [← h k hk']; exact hb) | (rw [h k hk']; exact hb)⟩)
/-- A search finds the first place, or says that there is none. -/
theorem fst_cases (p : Nat → Bool) (n : Nat) : (∃ k, k < n ∧ p k = true ∧ (∀ j, j < k → p j = false) ∧ fst? p n 0 = some k) ∨ ((∀ j, j < n → p j = false) ∧ fst? p n 0 = none) := by
  by_cases h : ∃ k, k < n ∧ p k = true
  · obtain ⟨k, hk⟩ := h
    have : ∃ k, (k < n ∧ p k = true) ∧ ∀ j, j < k → ¬ (j < n ∧ p j = true) := by
      induction k using Nat.strongRecOn with
      | _ k ih =>
        by_cases hh : ∃ j, j < k ∧ j < n ∧ p j = true
        · obtain ⟨j, h1, h2⟩ := hh; exact ih j h1 h2
        · exact ⟨k, hk, fun j hj hc => hh ⟨j, hj, hc⟩⟩
    obtain ⟨k, ⟨h1, h2⟩, h3⟩ := this
    have h4 : ∀ j, j < k → p j = false := fun j hj => by
      cases hp : p j with
      | false => rfl
      | true => exact absurd ⟨by omega, hp⟩ (h3 j hj)
    exact .inl ⟨k, h1, h2, h4, fst_some n 0 k (Nat.zero_le _) (by omega) h2 (fun j _ hj => h4 j hj)⟩
  · have h4 : ∀ j, j < n → p j = false := fun j hj => by
      cases hp : p j with
      | false => rfl
      | true => exact absurd ⟨j, hj, hp⟩ h
    exact .inr ⟨h4, fst_none n 0 fun j _ hj => h4 j (by omega)⟩
theorem holder_hd {n : Int} : ∀ {l : List Blk} {e c : Int}, Can e c l → holderR l n = hd n l
  | [], _, _, _ => by rw [holder_none (by simp)]; rfl
  | b :: r, e, c, h => by
    obtain ⟨g1, g2, g3, g4, g5, g6, g7⟩ := id h
    have ih := holder_hd (n := n) g7
    have hs : ∀ k, hitB (b :: r) n (k + 1) = hitB r n k := fun k => by simp only [hitB, List.getD_cons_succ]
    have h0 : hitB (b :: r) n 0 = (decide (b.f ≤ n) && decide (n < b.t)) := by simp only [hitB, List.getD_cons_zero]
    by_cases hin : b.f ≤ n ∧ n < b.t
    · rw [holder_some (k := 0) (by simp) (by rw [h0]; simp [hin]) (by simp)]
      simp only [hd, List.getD_cons_zero]; rw [if_neg (by omega), if_neg (by omega)]
    · have e1 : holderR (b :: r) n = holderR r n := by
        rcases fst_cases (hitB r n) r.length with ⟨k, h1, h2, h3, h4⟩ | ⟨h3, h4⟩
        · rw [holder_some h1 h2 h3]
          rw [holder_some (l := b :: r) (k := k + 1) (by simpa using h1) (by rw [hs]; exact h2) (fun j hj => by
            cases j with
            | zero => rw [h0]; simp; omega
            | succ j => rw [hs]; exact h3 j (by omega)), List.getD_cons_succ]
        · rw [holder_none h3]
          exact holder_none fun j hj => by
            cases j with
            | zero => rw [h0]; simp; omega
            | succ j => rw [hs]; exact h3 j (by simpa using hj)
      rw [e1, ih]
      simp only [hd]
      split
      · rfl
      · rw [if_pos (by omega), hd_lt g7 (by omega)]
/-! ### sorted edges -/
/-- Numbers in order. -/
def Sor (l : List Int) : Prop := l.Pairwise (· < ·)
theorem putS_spec {l : List Int} {n : Int} (h : Sor l) : Sor (putM l n) ∧ ∀ x, x ∈ putM l n ↔ x = n ∨ x ∈ l := by
  have hg : ∀ j, j < l.length → (stopP l n j = false ↔ l.getD j 0 < n) := fun j hj => by simp [stopP]
  have hlt : ∀ i j, i < j → (hj : j < l.length) → l.getD i 0 < l.getD j 0 := by
    intro i j hij hj
    have := List.pairwise_iff_getElem.1 h i j (by omega) hj hij
    simpa [List.getD_eq_getElem?_getD, List.getElem?_eq_getElem hj, List.getElem?_eq_getElem (show i < l.length by omega)] using this
  have tk : ∀ p, p ≤ l.length → (∀ j, j < p → l.getD j 0 < n) → ∀ x ∈ l.take p, x < n := by
    intro p hp hb x hx
    obtain ⟨j, hj, rfl⟩ := List.mem_iff_getElem.1 hx
    have hj' : j < p ∧ j < l.length := by simp at hj; omega
    have := hb j hj'.1
    simpa [List.getD_eq_getElem?_getD, List.getElem?_eq_getElem hj'.2] using this
  rcases fst_cases (stopP l n) l.length with ⟨k, h1, h2, h3, h4⟩ | ⟨h3, h4⟩
  · have hp : posP l n = k := posP_some h1 h2 h3
    have hk : ¬ l.getD k 0 < n := by intro hc; rw [(hg k h1).2 hc] at h2; cases h2
    unfold putM
    rw [hp]
    split
    · rename_i hc
      refine ⟨h, fun x => ⟨.inr, ?_⟩⟩
      rintro (rfl | hx)
      · rw [← hc.2]; rw [List.getD_eq_getElem?_getD, List.getElem?_eq_getElem h1]; exact List.getElem_mem h1
      · exact hx
    · rename_i hc
      have hgt : n < l.getD k 0 := by
        rcases Int.lt_trichotomy n (l.getD k 0) with h' | h' | h'
        · exact h'
        · exact absurd ⟨h1, h'.symm⟩ hc
        · exact absurd h' hk
      have dr : ∀ x ∈ l.drop k, n < x := by
        intro x hx
        obtain ⟨j, hj, rfl⟩ := List.mem_iff_getElem.1 hx
        have hj' : k + j < l.length := by simp at hj; omega
        rw [List.getElem_drop]
        rcases Nat.eq_zero_or_pos j with h0 | h0
        · subst h0; simpa [List.getD_eq_getElem?_getD, List.getElem?_eq_getElem h1] using hgt
        · have := hlt k (k + j) (by omega) hj'
          simp only [List.getD_eq_getElem?_getD, List.getElem?_eq_getElem hj', Option.getD_some] at this ⊢
          simp only [List.getD_eq_getElem?_getD] at hgt
          omega
      have t1 := tk k (by omega) fun j hj => (hg j (by omega)).1 (h3 j hj)
      refine ⟨List.pairwise_append.2 ⟨h.sublist (List.take_sublist _ _), List.pairwise_cons.2 ⟨dr, h.sublist (List.drop_sublist _ _)⟩, fun a ha b hb => ?_⟩, fun x => ?_⟩
      · rcases List.mem_cons.1 hb with rfl | hb
        · exact t1 a ha
        · have := t1 a ha; have := dr b hb; omega
      · rw [List.mem_append, List.mem_cons]
        constructor
        · rintro (hx | rfl | hx)
          · exact .inr (List.mem_of_mem_take hx)
          · exact .inl rfl
          · exact .inr (List.mem_of_mem_drop hx)
        · rintro (rfl | hx)
          · exact .inr (.inl rfl)
          · rw [← List.take_append_drop k l] at hx
            rcases List.mem_append.1 hx with hx | hx
            · exact .inl hx
            · exact .inr (.inr hx)
  · have hp : posP l n = l.length := posP_none h3
    unfold putM
    rw [hp, if_neg (by omega), List.take_length, List.drop_length]
    have t1 := tk l.length (Nat.le_refl _) fun j hj => (hg j hj).1 (h3 j hj)
    rw [List.take_length] at t1
    refine ⟨List.pairwise_append.2 ⟨h, List.pairwise_cons.2 ⟨by simp, List.Pairwise.nil⟩, fun a ha b hb => ?_⟩, fun x => ?_⟩
    · cases List.mem_singleton.1 hb; exact t1 a ha
    · rw [List.mem_append, List.mem_singleton]; exact Or.comm
theorem edgesA_spec : ∀ {l : List Blk} {o : List Int}, Sor o → Sor (edgesA l o) ∧ ∀ x, x ∈ edgesA l o ↔ x ∈ o ∨ ∃ b ∈ l, x = b.f ∨ x = b.t
  | [], o, h => ⟨h, fun x => by simp [edgesA]⟩
  | b :: r, o, h => by
    obtain ⟨s1, m1⟩ := putS_spec (n := b.f) h
    obtain ⟨s2, m2⟩ := putS_spec (n := b.t) s1
    obtain ⟨s3, m3⟩ := edgesA_spec (l := r) s2
    refine ⟨s3, fun x => ?_⟩
    show x ∈ edgesA r (putM (putM o b.f) b.t) ↔ _
    rw [m3, m2, m1]
    constructor
    · rintro ((h | h | h) | ⟨z, hz, h⟩)
      · exact .inr ⟨b, List.mem_cons_self, .inr h⟩
      · exact .inr ⟨b, List.mem_cons_self, .inl h⟩
      · exact .inl h
      · exact .inr ⟨z, List.mem_cons_of_mem _ hz, h⟩
    · rintro (h | ⟨z, hz, h⟩)
      · exact .inl (.inr (.inr h))
      · rcases List.mem_cons.1 hz with rfl | hz
        · rcases h with h | h
          · exact .inl (.inr (.inl h))
          · exact .inl (.inl h)
        · exact .inr ⟨z, hz, h⟩
theorem edges_spec' (a b : List Blk) : Sor (edgesM a b) ∧ ∀ x, x ∈ edgesM a b ↔ x = 0 ∨ x = 100000000 ∨ ∃ z ∈ a ++ b, x = z.f ∨ x = z.t := by
  have h0 : Sor eg0 := by simp [Sor, eg0]
  obtain ⟨s1, m1⟩ := edgesA_spec (l := a) h0
  obtain ⟨s2, m2⟩ := edgesA_spec (l := b) s1
  refine ⟨s2, fun x => ?_⟩
  rw [edgesM, m2, m1]
  simp only [eg0, List.mem_cons, List.not_mem_nil, or_false, List.mem_append]
  constructor
  · rintro ((h | ⟨z, hz, h⟩) | ⟨z, hz, h⟩)
    · rcases h with h | h
      · exact .inl h
      · exact .inr (.inl h)
    · exact .inr (.inr ⟨z, .inl hz, h⟩)
    · exact .inr (.inr ⟨z, .inr hz, h⟩)
  · rintro (h | h | ⟨z, hz | hz, h⟩)
    · exact .inl (.inl (.inl h))
    · exact .inl (.inl (.inr h))
    · exact .inl (.inr ⟨z, hz, h⟩)
    · exact .inr ⟨z, hz, h⟩
end Go.Proofs.YtnoicbajhlpndaaGreat
/- Maps as functions: what the reference's combine holds. -/
namespace Go.Proofs.YtnoicbajhlpndaaGreat
open Go Go.RowKit Go.Shelf Hp
set_option maxRecDepth 10000
set_option maxHeartbeats 1000000
set_option linter.unusedVariables false
set_option linter.unusedSimpArgs false
attribute [local irreducible] WP WPs FnX IterX YdX RetP PanP Ch Back Join
/-- Between two numbers where no block begins or ends, nothing changes. -/
theorem hd_const {n m : Int} (hnm : n ≤ m) : ∀ {l : List Blk}, (∀ b ∈ l, ¬(n < b.f ∧ b.f ≤ m) ∧ ¬(n < b.t ∧ b.t ≤ m)) → hd m l = hd n l
  | [], _ => rfl
  | b :: r, h => by
    have ih := hd_const hnm (l := r) fun x hx => h x (List.mem_cons_of_mem _ hx)
    obtain ⟨h1, h2⟩ := h b List.mem_cons_self
    simp only [hd]
    by_cases c1 : b.t ≤ n
    · rw [if_pos c1, if_pos (by omega)]; exact ih
    · rw [if_neg c1, if_neg (by omega)]
      by_cases c2 : n < b.f
      · rw [if_pos c2, if_pos (by omega)]
      · rw [if_neg c2, if_neg (by omega)]
theorem can_mem : ∀ {l : List Blk} {e c : Int}, Can e c l → ∀ b ∈ l, e ≤ b.f ∧ b.f < b.t ∧ b.t ≤ 100000000
  | [], _, _, _, b, hb => by cases hb
  | z :: r, e, c, h, b, hb => by
    obtain ⟨g1, g2, g3, g4, g5, g6, g7⟩ := h
    rcases List.mem_cons.1 hb with rfl | hb
    · exact ⟨g1, g2, g3⟩
    · have := can_mem g7 b hb; omega
theorem addR_addP {out : List Blk} {f t x : Int} (hx : x = -1 ∨ 0 ≤ x) : addR out f t x = addP (fun p _ => p) out (f, t, x, 0) := by
  unfold addR addP
  by_cases h : x < 0
  · rw [if_pos h, if_pos (by dsimp only; omega)]
  · rw [if_neg h, if_neg (by dsimp only; omega)]
    cases out.getLast? <;> rfl
theorem x3_range {way fr to x y : Int} (hx : x = -1 ∨ (0 ≤ x ∧ x ≤ 7)) (hy : y = -1 ∨ (0 ≤ y ∧ y ≤ 7)) (ht : fr < 0 ∨ (0 ≤ to ∧ to ≤ 7)) : x3M way fr to x y = -1 ∨ (0 ≤ x3M way fr to x y ∧ x3M way fr to x y ≤ 7) := by
  have h1 : x1M way x y = -1 ∨ (0 ≤ x1M way x y ∧ x1M way x y ≤ 7) := by unfold x1M; split; exact hy; exact hx
  have h2 : x2M way x y = -1 ∨ (0 ≤ x2M way x y ∧ x2M way x y ≤ 7) := by unfold x2M; split; exact .inl rfl; exact h1
  unfold x3M
  split
  · rename_i h; omega
  · exact h2
theorem outR_spec {a b : List Blk} {way fr to : Int} (ha : Can 0 (-1) a) (hb : Can 0 (-1) b) (ht : fr < 0 ∨ (0 ≤ to ∧ to ≤ 7)) :
    Can 0 (-1) (outR a b way fr to (edgesM a b) ((edgesM a b).length - 1)) ∧
    ∀ m, 0 ≤ m → m < 100000000 → hd m (outR a b way fr to (edgesM a b) ((edgesM a b).length - 1)) = x3M way fr to (hd m a) (hd m b) := by
  obtain ⟨hs, hm⟩ := edges_spec' a b
  obtain ⟨e, he⟩ : ∃ e, e = edgesM a b := ⟨_, rfl⟩
  rw [← he] at hs hm ⊢
  have hmem : ∀ z ∈ a ++ b, 0 ≤ z.f ∧ z.f < z.t ∧ z.t ≤ 100000000 := fun z hz => by
    rcases List.mem_append.1 hz with hz | hz
    · exact can_mem ha z hz
    · exact can_mem hb z hz
  have hrng : ∀ x ∈ e, 0 ≤ x ∧ x ≤ 100000000 := fun x hx => by
    rcases (hm x).1 hx with h | h | ⟨z, hz, h | h⟩
    · omega
    · omega
    · have := hmem z hz; omega
    · have := hmem z hz; omega
  have hg : ∀ i (hi : i < e.length), e.getD i 0 = e[i] := fun i hi => by simp [List.getD_eq_getElem?_getD, hi]
  have hlt : ∀ i j, i < j → j < e.length → e.getD i 0 < e.getD j 0 := fun i j hij hj => by
    rw [hg i (by omega), hg j hj]; exact List.pairwise_iff_getElem.1 hs i j (by omega) hj hij
  have hin : ∀ i, i < e.length → e.getD i 0 ∈ e := fun i hi => by rw [hg i hi]; exact List.getElem_mem hi
  have hix : ∀ x ∈ e, ∃ i, i < e.length ∧ e.getD i 0 = x := fun x hx => by
    obtain ⟨i, hi, h⟩ := List.mem_iff_getElem.1 hx
    exact ⟨i, hi, by rw [hg i hi]; exact h⟩
  have e0 : e.getD 0 0 = 0 := by
    obtain ⟨i, hi, h⟩ := hix 0 ((hm 0).2 (.inl rfl))
    rcases Nat.eq_zero_or_pos i with h0 | h0
    · subst h0; exact h
    · have h1 := hlt 0 i h0 hi
      have h2 := hrng _ (hin 0 (by omega))
      omega
  obtain ⟨il, hil, hel⟩ := hix 100000000 ((hm _).2 (.inr (.inl rfl)))
  have e1 : e.getD (e.length - 1) 0 = 100000000 := by
    rcases Nat.lt_or_ge il (e.length - 1) with h0 | h0
    · have h1 := hlt il (e.length - 1) h0 (by omega)
      have h2 := hrng _ (hin (e.length - 1) (by omega))
      omega
    · rw [show e.length - 1 = il from by omega]; exact hel
  have hbet : ∀ k, k + 1 < e.length → ∀ x ∈ e, ¬(e.getD k 0 < x ∧ x < e.getD (k + 1) 0) := by
    intro k hk x hx hc
    obtain ⟨i, hi, h⟩ := hix x hx
    subst h
    have h1 : k < i := by
      rcases Nat.lt_trichotomy k i with h | h | h
      · exact h
      · subst h; omega
      · have := hlt i k h (by omega); omega
    have h2 : i < k + 1 := by
      rcases Nat.lt_trichotomy i (k + 1) with h | h | h
      · exact h
      · subst h; omega
      · have := hlt (k + 1) i h hi; omega
    omega
  have main : ∀ k, k < e.length → Asc (e.getD k 0) (outR a b way fr to e k) ∧ Run (e.getD k 0) (outR a b way fr to e k) ∧ ∀ m, 0 ≤ m → m < e.getD k 0 → hd m (outR a b way fr to e k) = x3M way fr to (hd m a) (hd m b) := by
    intro k
    induction k with
    | zero => intro _; rw [e0]; exact ⟨.inl rfl, ⟨trivial, by simp [outR, endC]⟩, fun m h0 h1 => by omega⟩
    | succ k ih =>
      intro hk
      obtain ⟨i1, i2, i3⟩ := ih (by omega)
      have hx : xR a b way fr to (e.getD k 0) = x3M way fr to (hd (e.getD k 0) a) (hd (e.getD k 0) b) := by
        simp only [xR]; rw [holder_hd ha, holder_hd hb]
      have hr := x3_range (way := way) (hd_rng (m := e.getD k 0) ha) (hd_rng (m := e.getD k 0) hb) ht
      have hkk := hlt k (k + 1) (by omega) hk
      have r0 := hrng _ (hin k (by omega))
      have r1 := hrng _ (hin (k + 1) hk)
      have ho : outR a b way fr to e (k + 1) = addP (fun p _ => p) (outR a b way fr to e k) (e.getD k 0, e.getD (k + 1) 0, x3M way fr to (hd (e.getD k 0) a) (hd (e.getD k 0) b), 0) := by
        rw [← addR_addP (by omega), ← hx]; rfl
      rw [ho]
      obtain ⟨s1, s2⟩ := addP_step (hol := fun p _ => p) (x := x3M way fr to (hd (e.getD k 0) a) (hd (e.getD k 0) b)) (y := 0) hkk i1
      refine ⟨s1, addP_can (hol := fun p _ => p) r0.1 hkk r1.2 hr i2, fun m h0 h1 => ?_⟩
      rw [s2 m]
      split
      · rename_i hmm
        have hc : ∀ l : List Blk, (∀ z ∈ l, z ∈ a ++ b) → hd m l = hd (e.getD k 0) l := fun l hl => hd_const hmm.1 fun z hz => by
          have q1 := hbet k hk z.f ((hm _).2 (.inr (.inr ⟨z, hl z hz, .inl rfl⟩)))
          have q2 := hbet k hk z.t ((hm _).2 (.inr (.inr ⟨z, hl z hz, .inr rfl⟩)))
          omega
        rw [hc a fun z hz => List.mem_append_left _ hz, hc b fun z hz => List.mem_append_right _ hz]
      · exact i3 m h0 (by omega)
  obtain ⟨_, h2, h3⟩ := main (e.length - 1) (by omega)
  exact ⟨h2.1, fun m h0 h1 => h3 m h0 (by rw [e1]; exact h1)⟩
theorem can_one' {f t c : Int} (h : rangeOk f t = true) (hc : carOk c = true) : Can 0 (-1) [⟨f, t, c⟩] := by
  simp only [rangeOk, decide_eq_true_eq] at h
  have := carOk_iff.1 hc
  exact ⟨by dsimp only; omega, by dsimp only; omega, by dsimp only; omega, by dsimp only; omega, by dsimp only; omega, by dsimp only; omega, trivial⟩
theorem hd_one' (f t c : Int) (h : f < t) (m : Int) : hd m [⟨f, t, c⟩] = if f ≤ m ∧ m < t then c else -1 := by
  simp only [hd]
  split
  · rw [if_neg (by omega)]
  · split
    · rw [if_neg (by omega)]
    · rw [if_pos (by omega)]
/-- A map of at most k blocks. -/
structure Mp (l : List Blk) (k : Nat) : Prop where
  can : Can 0 (-1) l
  len : l.length ≤ k
theorem Mp.valid {l : List Blk} {k : Nat} (h : Mp l k) (hk : k ≤ 40) : validB l = true := can_valid h.can (Nat.le_trans h.len hk)
theorem Mp.nil (k : Nat) : Mp [] k := ⟨trivial, Nat.zero_le _⟩
theorem mp_of {l : List Blk} (h : validB l = true) : Mp l 40 := ⟨valid_can h, by simp only [validB, Bool.and_eq_true, decide_eq_true_eq] at h; exact h.1⟩
/-- What the reference's combine returns, by what it holds. -/
theorem combR_spec {a b : List Blk} {way fr to : Int} {s : List Int} (ha : Can 0 (-1) a) (hb : Can 0 (-1) b) (ht : fr < 0 ∨ (0 ≤ to ∧ to ≤ 7)) (h40 : s.length ≤ 40)
    (hs : ∀ n, 0 ≤ n → n < 100000000 → 0 ≤ x3M way fr to (hd n a) (hd n b) → x3M way fr to (hd (n - 1) a) (hd (n - 1) b) ≠ x3M way fr to (hd n a) (hd n b) → n ∈ s) :
    (combR a b way fr to).2 = 0 ∧ Mp (combR a b way fr to).1 s.length ∧ ∀ m, 0 ≤ m → m < 100000000 → hd m (combR a b way fr to).1 = x3M way fr to (hd m a) (hd m b) := by
  obtain ⟨h1, h2⟩ := outR_spec (way := way) ha hb ht
  have hm1 : ∀ m, m < 0 → x3M way fr to (hd m a) (hd m b) = -1 := fun m hm => by
    rw [hd_lt ha hm, hd_lt hb hm]; simp only [x3M, x2M, x1M]; (repeat' split) <;> omega
  have hl := len_starts (s := s) h1 fun n n0 n1 g0 g1 => by
    rw [h2 n n0 n1] at g0 g1
    refine hs n n0 n1 g0 ?_
    rcases Int.lt_or_le (n - 1) 0 with hneg | hpos
    · rw [hm1 _ hneg]; omega
    · rw [h2 (n - 1) hpos (by omega)] at g1; exact g1
  have hv := can_valid h1 (by omega)
  unfold combR
  rw [if_pos (by rw [rvalid_eq]; exact hv)]
  exact ⟨rfl, ⟨h1, hl⟩, h2⟩
end Go.Proofs.YtnoicbajhlpndaaGreat
/- The worlds that integers determine are worlds. -/
namespace Go.Proofs.YtnoicbajhlpndaaGreat
open Go Go.RowKit Go.Shelf Hp
set_option maxRecDepth 10000
set_option maxHeartbeats 1000000
set_option linter.unusedVariables false
set_option linter.unusedSimpArgs false
attribute [local irreducible] WP WPs FnX IterX YdX RetP PanP Ch Back Join
theorem x3_give (x y : Int) : x3M 0 (-1) (-1) x y = if 0 ≤ y then y else x := by
  have h1 : x1M 0 x y = if 0 ≤ y then y else x := by
    unfold x1M; by_cases h : 0 ≤ y
    · rw [if_pos (by omega), if_pos h]
    · rw [if_neg (by omega), if_neg h]
  have h2 : x2M 0 x y = x1M 0 x y := by unfold x2M; rw [if_neg (by omega)]
  unfold x3M; rw [if_neg (by omega), h2, h1]
theorem x3_take (x y : Int) : x3M 1 (-1) (-1) x y = if 0 ≤ y then -1 else x := by
  have h2 : x2M 1 x y = if 0 ≤ y then -1 else x := by
    unfold x2M x1M
    by_cases h : 0 ≤ y
    · rw [if_pos (by omega), if_pos h]
    · rw [if_neg (by omega), if_neg (by omega), if_neg h]
  unfold x3M; rw [if_neg (by omega), h2]
theorem x3_swap (f t x : Int) (hf : 0 ≤ f) (hx : x = -1 ∨ 0 ≤ x) : x3M 0 f t x (-1) = if x = f then t else x := by
  have h1 : x1M 0 x (-1) = x := by unfold x1M; rw [if_neg (by omega)]
  have h2 : x2M 0 x (-1) = x := by unfold x2M; rw [if_neg (by omega), h1]
  unfold x3M; rw [h2]
  by_cases h : x = f
  · rw [if_pos (by omega), if_pos h]
  · rw [if_neg (by omega), if_neg h]
theorem give_mp {l : List Blk} {k : Nat} (h : Mp l k) (hk : k + 2 ≤ 40) (f t c : Int) : Mp (giveR l f t c).1 (k + 2) := by
  unfold giveR
  split
  · exact .nil _
  · rename_i hc
    simp only [Bool.and_eq_false_iff, not_or, Bool.not_eq_false] at hc
    have hr := hc.1.2
    simp only [rangeOk, decide_eq_true_eq] at hr
    have hcc := carOk_iff.1 hc.2
    have hh := hd_one' f t c hr.2.1
    obtain ⟨_, h2, _⟩ := combR_spec (way := 0) (fr := -1) (to := -1) (s := l.map Blk.f ++ [f, t]) h.can (can_one' hc.1.2 hc.2) (.inl (by omega)) (by have := h.len; simp; omega) fun n n0 n1 g0 g1 => by
      have hx : ∀ m, x3M 0 (-1) (-1) (hd m l) (hd m [⟨f, t, c⟩]) = if f ≤ m ∧ m < t then c else hd m l := fun m => by
        rw [hh m, x3_give]
        by_cases hin : f ≤ m ∧ m < t
        · rw [if_pos hin, if_pos hin, if_pos (by omega)]
        · rw [if_neg hin, if_neg hin, if_neg (by omega)]
      rw [hx] at g0 g1
      rw [hx] at g1
      by_cases e1 : n = f
      · simp [e1]
      · by_cases e2 : n = t
        · simp [e2]
        · by_cases hin : f ≤ n ∧ n < t
          · rw [if_pos hin, if_pos (by omega)] at g1; exact absurd rfl g1
          · rw [if_neg hin] at g0 g1; rw [if_neg (by omega)] at g1
            exact List.mem_append_left _ ((start0 h.can).2 ⟨g0, g1⟩)
    exact ⟨h2.can, by have h3 := h2.len; have := h.len; simp at h3; omega⟩
theorem take_mp {l : List Blk} {k : Nat} (h : Mp l k) (hk : k + 2 ≤ 40) (f t : Int) : Mp (takeR l f t).1 (k + 2) := by
  unfold takeR
  split
  · exact .nil _
  · rename_i hc
    simp only [Bool.and_eq_false_iff, not_or, Bool.not_eq_false] at hc
    have hr := hc.2
    simp only [rangeOk, decide_eq_true_eq] at hr
    have hh := hd_one' f t 0 hr.2.1
    obtain ⟨_, h2, _⟩ := combR_spec (way := 1) (fr := -1) (to := -1) (s := l.map Blk.f ++ [f, t]) h.can (can_one' (c := 0) hc.2 dQ) (.inl (by omega)) (by have := h.len; simp; omega) fun n n0 n1 g0 g1 => by
      have hx : ∀ m, x3M 1 (-1) (-1) (hd m l) (hd m [⟨f, t, 0⟩]) = if f ≤ m ∧ m < t then -1 else hd m l := fun m => by
        rw [hh m, x3_take]
        by_cases hin : f ≤ m ∧ m < t
        · rw [if_pos hin, if_pos hin, if_pos (by omega)]
        · rw [if_neg hin, if_neg hin, if_neg (by omega)]
      rw [hx] at g0 g1
      rw [hx] at g1
      by_cases e2 : n = t
      · simp [e2]
      · by_cases hin : f ≤ n ∧ n < t
        · rw [if_pos hin] at g0; omega
        · rw [if_neg hin] at g0 g1
          by_cases hin2 : f ≤ n - 1 ∧ n - 1 < t
          · omega
          · rw [if_neg hin2] at g1
            exact List.mem_append_left _ ((start0 h.can).2 ⟨g0, g1⟩)
    exact ⟨h2.can, by have h3 := h2.len; have := h.len; simp at h3; omega⟩
theorem swapR_mp {l : List Blk} {k : Nat} (h : Mp l k) (hk : k ≤ 40) {f t : Int} (hf : 0 ≤ f ∧ f ≤ 7) (ht : 0 ≤ t ∧ t ≤ 7) : Mp (swapR l f t).1 k ∧ ∀ m, 0 ≤ m → m < 100000000 → hd m (swapR l f t).1 = if hd m l = f then t else hd m l := by
  unfold swapR
  rw [if_neg (by simp [rvalid_eq, h.valid hk, carOk_iff.2 hf, carOk_iff.2 ht])]
  have hx : ∀ m, x3M 0 f t (hd m l) (hd m []) = if hd m l = f then t else hd m l := fun m => by
    have hrl := hd_rng (m := m) h.can
    rw [show hd m [] = -1 from rfl, x3_swap f t _ hf.1 (by omega)]
  obtain ⟨_, h2, h3⟩ := combR_spec (way := 0) (fr := f) (to := t) (s := l.map Blk.f) h.can (b := []) trivial (.inr ht) (by have := h.len; simp; omega) fun n n0 n1 g0 g1 => by
    rw [hx] at g0 g1
    rw [hx] at g1
    refine (start0 h.can).2 ⟨?_, fun he => ?_⟩
    · split at g0 <;> omega
    · rw [he] at g1; exact g1 rfl
  exact ⟨⟨h2.can, by have h4 := h2.len; have := h.len; simp at h4; omega⟩, fun m h0 h1 => by rw [h3 m h0 h1, hx]⟩
theorem stepMade_mp {l : List Blk} {k : Nat} (h : Mp l k) (hk : k + 2 ≤ 40) (p : T3) : Mp (stepMade l p) (k + 2) := by
  unfold stepMade; split
  · exact give_mp h hk _ _ _
  · exact take_mp h hk _ _
theorem fold_mp : ∀ (x : List T3) (l : List Blk) (k : Nat), Mp l k → k + 2 * x.length ≤ 40 → Mp (x.foldl stepMade l) (k + 2 * x.length)
  | [], l, k, h, _ => h
  | p :: x, l, k, h, hk => by
    simp only [List.length_cons] at hk ⊢
    have := fold_mp x (stepMade l p) (k + 2) (stepMade_mp h (by omega) p) (by omega)
    rw [show k + 2 * (x.length + 1) = k + 2 + 2 * x.length from by omega]; exact this
theorem made_mp (x : List T3) : Mp (made13 (x.take 8)) 16 := by
  have h1 : (x.take 8).length ≤ 8 := by simp; omega
  have := fold_mp (x.take 8) [] 0 (.nil 0) (by omega)
  unfold made13 mAt
  rw [List.take_of_length_le (by omega)]
  exact ⟨this.can, by have := this.len; omega⟩
theorem first_bit {al : Int} (h1 : 1 ≤ al) (h2 : al ≤ 255) : firstB al < 8 ∧ bitM al (firstB al) = true := by
  rcases fst_cases (fun j => bitM al j) 8 with ⟨k, g1, g2, g3, g4⟩ | ⟨g3, _⟩
  · have : firstB al = k := firstB_eq g1 g2 g3
    rw [this]; exact ⟨g1, g2⟩
  · obtain ⟨j, hj, hb⟩ := bit_first h1 h2
    have := g3 j hj
    rw [hb] at this; cases this
theorem swAt_mp {al : Int} (h1 : 1 ≤ al) (h2 : al ≤ 255) {m0 : List Blk} (h : Mp m0 16) : ∀ c, c ≤ 8 → Mp (swAt al m0 c) 16 ∧ ∀ m, 0 ≤ m → m < 100000000 → 0 ≤ hd m (swAt al m0 c) → hd m (swAt al m0 c) < c → bitM al (hd m (swAt al m0 c)) = true
  | 0, _ => ⟨h, fun m _ _ g0 g1 => by omega⟩
  | c + 1, hc => by
    obtain ⟨i1, i2⟩ := swAt_mp h1 h2 h c (by omega)
    obtain ⟨f1, f2⟩ := first_bit h1 h2
    simp only [swAt]
    split
    · rename_i hb
      refine ⟨i1, fun m h0 h1 g0 g1 => ?_⟩
      rcases Int.lt_or_le (hd m (swAt al m0 c)) c with hl | hl
      · exact i2 m h0 h1 g0 hl
      · rw [show hd m (swAt al m0 c) = (c : Int) from by omega]; exact hb
    · obtain ⟨s1, s2⟩ := swapR_mp i1 (by omega) (f := (c : Int)) (t := (firstB al : Int)) (by omega) (by omega)
      refine ⟨s1, fun m h0 h1 g0 g1 => ?_⟩
      rw [s2 m h0 h1] at g0 g1 ⊢
      split
      · exact f2
      · rename_i hne
        rw [if_neg hne] at g0 g1
        exact i2 m h0 h1 g0 (by omega)
theorem can_hd : ∀ {l : List Blk} {e c : Int}, Can e c l → ∀ b ∈ l, hd b.f l = b.c
  | [], _, _, _, b, hb => by cases hb
  | z :: r, e, c, h, b, hb => by
    obtain ⟨g1, g2, g3, g4, g5, g6, g7⟩ := h
    rcases List.mem_cons.1 hb with rfl | hb
    · simp only [hd]; rw [if_neg (by omega), if_neg (by omega)]
    · have := can_mem g7 b hb
      simp only [hd]; rw [if_pos (by omega)]; exact can_hd g7 b hb
theorem can_car : ∀ {l : List Blk} {e c : Int}, Can e c l → ∀ b ∈ l, 0 ≤ b.c ∧ b.c ≤ 7
  | [], _, _, _, b, hb => by cases hb
  | z :: r, e, c, h, b, hb => by
    obtain ⟨g1, g2, g3, g4, g5, g6, g7⟩ := h
    rcases List.mem_cons.1 hb with rfl | hb
    · exact ⟨g4, g5⟩
    · exact can_car g7 b hb
theorem has_bit_all : ∀ s : Fin 256, ∀ i : Fin 8, hasC (s.val : Int) (i.val : Int) = bitM (s.val : Int) (i.val : Int) := by decide +kernel
theorem has_bit {s i : Int} (h0 : 0 ≤ s) (h1 : s ≤ 255) (i0 : 0 ≤ i) (i1 : i ≤ 7) : hasC s i = bitM s i := by
  have h := has_bit_all ⟨s.toNat, by omega⟩ ⟨i.toNat, by omega⟩
  dsimp only at h
  rwa [Int.toNat_of_nonneg h0, Int.toNat_of_nonneg i0] at h
/-- Who holds anything is alive: said of the map, and of its blocks. -/
theorem dead_iff {w : Wd} (hc : Can 0 (-1) w.blocks) : (List.range w.blocks.length).any (deadAt w) = false ↔ ∀ m, 0 ≤ m → m < 100000000 → 0 ≤ hd m w.blocks → hasC w.alive (hd m w.blocks) = true := by
  rw [List.any_eq_false]
  constructor
  · intro h m h0 h1 hh
    have : ∀ {l : List Blk} {e c : Int}, Can e c l → 0 ≤ hd m l → ∃ b ∈ l, b.c = hd m l := by
      intro l
      induction l with
      | nil => intro e c _ h; simp [hd] at h
      | cons b r ih =>
        intro e c hcc h
        obtain ⟨g1, g2, g3, g4, g5, g6, g7⟩ := hcc
        simp only [hd] at h ⊢
        split
        · rename_i h3; rw [if_pos h3] at h; obtain ⟨z, hz, hz2⟩ := ih g7 h; exact ⟨z, List.mem_cons_of_mem _ hz, hz2⟩
        · rename_i h3
          rw [if_neg h3] at h
          split
          · rename_i h4; rw [if_pos h4] at h; omega
          · exact ⟨b, List.mem_cons_self, rfl⟩
    obtain ⟨b, hb, hb2⟩ := this hc hh
    obtain ⟨k, hk, rfl⟩ := List.mem_iff_getElem.1 hb
    have := h k (List.mem_range.2 hk)
    simp only [deadAt, Bool.not_eq_true', Bool.not_eq_false, List.getD_eq_getElem?_getD, List.getElem?_eq_getElem hk, Option.getD_some] at this
    rw [← hb2]; simpa using this
  · intro h k hk
    have hk' := List.mem_range.1 hk
    have hm := List.getElem_mem hk'
    have h1 := can_mem hc _ hm
    have h2 := can_hd hc _ hm
    have h3 := can_car hc _ hm
    have := h _ h1.1 (by omega) (by rw [h2]; exact h3.1)
    rw [h2] at this
    simp only [deadAt, List.getD_eq_getElem?_getD, List.getElem?_eq_getElem hk', Option.getD_some, this]; simp
end Go.Proofs.YtnoicbajhlpndaaGreat
/- The worlds that integers determine are worlds (balances, levels, sets). -/
namespace Go.Proofs.YtnoicbajhlpndaaGreat
open Go Go.RowKit Go.Shelf Hp
set_option maxRecDepth 10000
set_option maxHeartbeats 1000000
set_option linter.unusedVariables false
set_option linter.unusedSimpArgs false
attribute [local irreducible] WP WPs FnX IterX YdX RetP PanP Ch Back Join
theorem ofInt_nat (n : Nat) : BitVec.ofInt 64 (n : Int) = BitVec.ofNat 64 n := by simp
theorem bits_or_nat {x y : Nat} (hx : x < 256) (hy : y < 256) : bits64 .or (x : Int) (y : Int) = ((x ||| y : Nat) : Int) ∧ (x ||| y) < 256 := by
  have h : x ||| y < 2 ^ 8 := Nat.or_lt_two_pow (by simpa using hx) (by simpa using hy)
  refine ⟨?_, by simpa using h⟩
  have e : (BitVec.ofNat 64 x ||| BitVec.ofNat 64 y).toNat = x ||| y := by
    rw [BitVec.toNat_or, BitVec.toNat_ofNat, BitVec.toNat_ofNat, Nat.mod_eq_of_lt (by omega), Nat.mod_eq_of_lt (by omega)]
  simp only [bits64, ofInt_nat]
  rw [e]
  exact wrap_in (by unfold in64; omega)
theorem bits_and_nat {x y : Nat} (hx : x < 256) (hy : y < 256) : bits64 .and (x : Int) (y : Int) = ((x &&& y : Nat) : Int) := by
  have h : x &&& y ≤ y := Nat.and_le_right
  have e : (BitVec.ofNat 64 x &&& BitVec.ofNat 64 y).toNat = x &&& y := by
    rw [BitVec.toNat_and, BitVec.toNat_ofNat, BitVec.toNat_ofNat, Nat.mod_eq_of_lt (by omega), Nat.mod_eq_of_lt (by omega)]
  simp only [bits64, ofInt_nat]
  rw [e]
  exact wrap_in (by unfold in64; omega)
theorem or_sub {x y : Int} (x0 : 0 ≤ x) (x1 : x ≤ 255) (y0 : 0 ≤ y) (y1 : y ≤ 255) : 0 ≤ bits64 .or x y ∧ bits64 .or x y ≤ 255 ∧ bits64 .and x (bits64 .or x y) = x := by
  obtain ⟨n, rfl⟩ := Int.eq_ofNat_of_zero_le x0
  obtain ⟨m, rfl⟩ := Int.eq_ofNat_of_zero_le y0
  obtain ⟨h1, h2⟩ := bits_or_nat (x := n) (y := m) (by omega) (by omega)
  rw [h1]
  refine ⟨by omega, by omega, ?_⟩
  rw [bits_and_nat (by omega) h2]
  congr 1
  apply Nat.eq_of_testBit_eq
  intro i
  rw [Nat.testBit_and, Nat.testBit_or]
  cases n.testBit i <;> simp
/-! ### sums -/
def sumN (l : List Int) : Nat → Int
  | 0 => 0
  | k + 1 => sumN l k + l.getD k 0
theorem sumTo_sumN (w : Wd) : ∀ k, sumTo w k = sumN w.bal k
  | 0 => rfl
  | k + 1 => by simp only [sumTo, sumN, sumTo_sumN w k]
theorem sumN_set {l : List Int} {i : Nat} {v : Int} (hi : i < l.length) : ∀ k, sumN (l.set i v) k = sumN l k + if i < k then v - l.getD i 0 else 0
  | 0 => by simp [sumN]
  | k + 1 => by
    simp only [sumN]
    rw [sumN_set hi k, getD_set]
    by_cases h1 : i = k
    · subst h1; rw [if_neg (by omega), if_pos ⟨rfl, hi⟩, if_pos (by omega)]; omega
    · rw [if_neg (show ¬(i = k ∧ i < l.length) by omega)]
      by_cases h2 : i < k
      · rw [if_pos h2, if_pos (by omega)]; omega
      · rw [if_neg h2, if_neg (by omega)]; omega
structure BalOk (al : Int) (b : List Int) : Prop where
  len : b.length = 8
  sum : sumN b 8 = 0
  dead : ∀ k : Nat, k < 8 → bitM al k = false → b.getD k 0 = 0
theorem balStep_ok {al : Int} {b : List Int} (h : BalOk al b) (d : Dbt) : BalOk al (balStep al b d) := by
  unfold balStep
  split
  · rename_i hc
    simp only [inR, Bool.and_eq_true, decide_eq_true_eq] at hc
    obtain ⟨⟨⟨⟨f0, f7⟩, t0, t7⟩, hf⟩, ht⟩ := hc
    have hl := h.len
    refine ⟨by simp [hl], ?_, fun k hk hb => ?_⟩
    · rw [sumN_set (by simp [hl]; omega), sumN_set (by omega), h.sum, if_pos (by omega), if_pos (by omega)]; omega
    · have e1 : d.fr.toNat ≠ k := by intro e; subst e; rw [Int.toNat_of_nonneg f0] at hb; rw [hb] at hf; cases hf
      have e2 : d.to.toNat ≠ k := by intro e; subst e; rw [Int.toNat_of_nonneg t0] at hb; rw [hb] at ht; cases ht
      rw [getD_set, if_neg (by omega), getD_set, if_neg (by omega)]; exact h.dead k hk hb
  · exact h
theorem bal_ok (al : Int) (ds : List Dbt) (k : Nat) : BalOk al (balTo42 al ds k) := by
  unfold balTo42
  generalize ds.take k = l
  have : ∀ (l : List Dbt) (b : List Int), BalOk al b → BalOk al (l.foldl (balStep al) b) := by
    intro l
    induction l with
    | nil => exact fun b h => h
    | cons d l ih => exact fun b h => ih _ (balStep_ok h d)
  refine this l _ ⟨by simp, by decide, fun k hk _ => ?_⟩
  rw [List.getD_eq_getElem?_getD, List.getElem?_replicate]; split <;> rfl
/-! ### levels -/
theorem fold_rng {f : Int → Int → Int} (hf : ∀ x y, f x y = x ∨ f x y = y) {lo hi : Int} : ∀ {r : List Int} {x : Int}, (lo ≤ x ∧ x ≤ hi) → (∀ y ∈ r, lo ≤ y ∧ y ≤ hi) → lo ≤ r.foldl f x ∧ r.foldl f x ≤ hi
  | [], x, hx, _ => hx
  | y :: r, x, hx, h => fold_rng hf (r := r) (x := f x y) (by rcases hf x y with e | e <;> rw [e]; exact hx; exact h y List.mem_cons_self) fun z hz => h z (List.mem_cons_of_mem _ hz)
theorem spread {l : List Int} {lo hi : Int} (h : ∀ x ∈ l, lo ≤ x ∧ x ≤ hi) (hne : l ≠ []) : maxL l - minL l ≤ hi - lo := by
  cases l with
  | nil => exact absurd rfl hne
  | cons x r =>
    have hx := h x List.mem_cons_self
    have hr := fun y hy => h y (List.mem_cons_of_mem x hy)
    have h1 := fold_rng (f := max) (fun x y => by omega) hx hr
    have h2 := fold_rng (f := min) (fun x y => by omega) hx hr
    simp only [maxL, minL]; omega
theorem lvs_mem {w : Wd} : ∀ {k : Nat} {x : Int}, x ∈ lvsTo w k → ∃ j, j < k ∧ hasC w.alive j = true ∧ x = w.lev.getD j 0
  | 0, x, h => by simp [lvsTo] at h
  | k + 1, x, h => by
    simp only [lvsTo] at h
    split at h
    · rename_i hh
      rcases List.mem_append.1 h with h | h
      · obtain ⟨j, hj, h1, h2⟩ := lvs_mem h; exact ⟨j, by omega, h1, h2⟩
      · exact ⟨k, by omega, hh, List.mem_singleton.1 h⟩
    · obtain ⟨j, hj, h1, h2⟩ := lvs_mem h; exact ⟨j, by omega, h1, h2⟩
theorem spread_ok {l : List Int} {lo : Int} (h : ∀ x ∈ l, lo ≤ x ∧ x ≤ lo + 1) : l.length = 0 ∨ maxL l - minL l ≤ 1 := by
  cases l with
  | nil => exact .inl rfl
  | cons x r => have := spread h (by simp); exact .inr (by omega)
theorem made_valid (a0 a1 : Int) (x : List T3) (a2 : Int) (ds : List Dbt) (hd12 : ds.length ≤ 12) (hg : ∀ d ∈ ds, goodD d) : VParts (madeW a0 a1 x a2 ds) ∧ (madeW a0 a1 x a2 ds).blocks.length ≤ 16 ∧ (∀ j, -24000 ≤ (madeW a0 a1 x a2 ds).bal.getD j 0 ∧ (madeW a0 a1 x a2 ds).bal.getD j 0 ≤ 24000) ∧ 1 ≤ (madeW a0 a1 x a2 ds).alive := by
  have p0 := pickM_range (c := a0) (n := 255) (by omega)
  have p1 := pickM_range (c := a1) (n := 256) (by omega)
  obtain ⟨al, hal⟩ : ∃ al, al = 1 + pickM a0 255 := ⟨_, rfl⟩
  have l1 : 1 ≤ al := by omega
  have l2 : al ≤ 255 := by omega
  obtain ⟨o1, o2, o3⟩ := or_sub (x := al) (y := pickM a1 256) (by omega) l2 p1.1 (by omega)
  obtain ⟨m1, m2⟩ := swAt_mp l1 l2 (made_mp x) 8 (by omega)
  have bo := bal_ok al ds ds.length
  have bb := fun j => bal_bd (al := al) hg ds.length (Nat.le_refl _) j
  have lv : ∀ k : Nat, k < 8 → (levTo42 al a2 8).getD k 0 = levB al a2 k := fun k hk => by
    simp [levTo42, List.getD_eq_getElem?_getD, hk]
  have lb : ∀ k : Nat, (bitM al k = true ∧ 3 ≤ levB al a2 k ∧ levB al a2 k ≤ 4) ∨ (bitM al k = false ∧ levB al a2 k = 0) := fun k => by
    unfold levB
    cases hb : bitM al k with
    | false => exact .inr ⟨rfl, by simp⟩
    | true => have := tm2 a2 k; exact .inl ⟨rfl, by simp only [if_true]; omega, by simp only [if_true]; omega⟩
  have hw : madeW a0 a1 x a2 ds = ⟨al, bits64 .or al (pickM a1 256), swAt al (made13 (x.take 8)) 8, balTo42 al ds ds.length, levTo42 al a2 8⟩ := by rw [hal]; rfl
  rw [hw]
  have bd : ∀ j, -24000 ≤ (balTo42 al ds ds.length).getD j 0 ∧ (balTo42 al ds ds.length).getD j 0 ≤ 24000 := fun j => by have := bb j; omega
  refine ⟨⟨by simp [inM, o1, o2], o3, by dsimp only; omega, bo.len, by simp [levTo42], m1.valid (by omega), ?_, fun j hj => ?_, ?_, ?_⟩, m1.len, bd, l1⟩
  · refine (dead_iff m1.can).2 fun m h0 h1 hh => ?_
    dsimp only at hh ⊢
    have hr := hd_rng (m := m) m1.can
    rw [has_bit (by omega) l2 hh (by omega)]
    exact m2 m h0 h1 hh (by omega)
  · have hbd := bd j
    simp only [okAt, lv j hj, moneyOk, inM, Bool.and_eq_true, Bool.or_eq_true, decide_eq_true_eq]
    rcases lb j with ⟨e1, e2, e3⟩ | ⟨e1, e2⟩
    · exact ⟨⟨by omega, by omega⟩, .inl (by rw [has_bit (by omega) l2 (by omega) (by omega)]; exact e1)⟩
    · exact ⟨⟨by omega, by omega⟩, .inr ⟨bo.dead j hj e1, e2⟩⟩
  · rw [sumTo_sumN]; exact bo.sum
  · refine spread_ok (lo := 3) fun y hy => ?_
    obtain ⟨j, hj, h1, rfl⟩ := lvs_mem hy
    dsimp only at h1 ⊢
    rw [has_bit (by omega) l2 (by omega) (by omega)] at h1
    rw [lv j hj]
    rcases lb j with ⟨e1, e2, e3⟩ | ⟨e1, e2⟩
    · omega
    · rw [h1] at e1; cases e1
end Go.Proofs.YtnoicbajhlpndaaGreat
/- Counting numbers; what the program's own combine returns, where it fits. -/
namespace Go.Proofs.YtnoicbajhlpndaaGreat
open Go Go.RowKit Go.Shelf Hp
set_option maxRecDepth 10000
set_option maxHeartbeats 1000000
set_option linter.unusedVariables false
set_option linter.unusedSimpArgs false
attribute [local irreducible] WP WPs FnX IterX YdX RetP PanP Ch Back Join
/-! ### counting -/
/-! ### combine, where it fits -/
theorem combM_ok {hol : Int → Int → Int} {a b : List Blk} {s : List Int} (ha : Can 0 (-1) a) (hb : Can 0 (-1) b) (hr : ∀ x y, (x = -1 ∨ (0 ≤ x ∧ x ≤ 7)) → (y = -1 ∨ (0 ≤ y ∧ y ≤ 7)) → hol x y = -1 ∨ (0 ≤ hol x y ∧ hol x y ≤ 7)) (h1 : hol (-1) (-1) = -1) (h40 : s.length ≤ 40)
    (hs : ∀ n, 0 ≤ n → n < 100000000 → 0 ≤ hol (hd n a) (hd n b) → hol (hd (n - 1) a) (hd (n - 1) b) ≠ hol (hd n a) (hd n b) → n ∈ s) :
    (combM a b hol).2 = 0 ∧ Mp (combM a b hol).1 s.length ∧ ∀ m, 0 ≤ m → m < 100000000 → hd m (combM a b hol).1 = hol (hd m a) (hd m b) := by
  have hc := comb_can ha hb hr
  have hl := len_starts (s := s) hc fun n n0 n1 g0 g1 => by
    rw [comb_hd ha hb n0 n1] at g0 g1
    refine hs n n0 n1 g0 ?_
    rcases Int.lt_or_le (n - 1) 0 with hneg | hpos
    · rw [hd_lt ha hneg, hd_lt hb hneg, h1]; omega
    · rw [comb_hd ha hb hpos (by omega)] at g1; exact g1
  unfold combM
  rw [if_neg (by omega)]
  exact ⟨rfl, ⟨hc, hl⟩, fun m m0 m1 => comb_hd ha hb m0 m1⟩
theorem only_rng : ∀ x y : Int, (x = -1 ∨ (0 ≤ x ∧ x ≤ 7)) → (y = -1 ∨ (0 ≤ y ∧ y ≤ 7)) → onlyM x y = -1 ∨ (0 ≤ onlyM x y ∧ onlyM x y ≤ 7) := by
  intro x y hx hy; unfold onlyM; split; exact .inl rfl; exact hx
theorem over_rng : ∀ x y : Int, (x = -1 ∨ (0 ≤ x ∧ x ≤ 7)) → (y = -1 ∨ (0 ≤ y ∧ y ≤ 7)) → overM x y = -1 ∨ (0 ≤ overM x y ∧ overM x y ≤ 7) := by
  intro x y hx hy; unfold overM; split; exact hx; exact hy
theorem swap_rng {f t : Int} (ht : 0 ≤ t ∧ t ≤ 7) : ∀ x y : Int, (x = -1 ∨ (0 ≤ x ∧ x ≤ 7)) → (y = -1 ∨ (0 ≤ y ∧ y ≤ 7)) → swapM f t x y = -1 ∨ (0 ≤ swapM f t x y ∧ swapM f t x y ≤ 7) := by
  intro x y hx hy; unfold swapM; split; exact .inr ht; exact hx
theorem swap_ok {l : List Blk} {k : Nat} (h : Mp l k) (hk : k ≤ 40) {f t : Int} (hf : 0 ≤ f ∧ f ≤ 7) (ht : 0 ≤ t ∧ t ≤ 7) : (swapB l f t).2 = 0 ∧ Mp (swapB l f t).1 k := by
  have hx : ∀ m, swapM f t (hd m l) (hd m []) = if hd m l = f then t else hd m l := fun m => rfl
  obtain ⟨h1, h2, _⟩ := combM_ok (hol := swapM f t) (s := l.map Blk.f) h.can (b := []) trivial (swap_rng ht) (by unfold swapM; rw [if_neg (by omega)]) (by have := h.len; simp; omega) fun n n0 n1 g0 g1 => by
    rw [hx] at g0 g1
    rw [hx] at g1
    refine (start0 h.can).2 ⟨?_, fun he => ?_⟩
    · split at g0 <;> omega
    · rw [he] at g1; exact g1 rfl
  unfold swapB
  rw [if_neg (by simp [h.valid (by omega), carOk_iff.2 hf, carOk_iff.2 ht])]
  exact ⟨h1, h2.can, by have h3 := h2.len; have := h.len; simp at h3; omega⟩
end Go.Proofs.YtnoicbajhlpndaaGreat
