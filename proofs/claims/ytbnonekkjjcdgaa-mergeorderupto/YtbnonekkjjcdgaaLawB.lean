/- Maps as functions: who holds a number. What combine returns holds what it should, and a map is known by who holds what in it. -/
import Derived.Test.YtbnonekkjjcdgaaLawA
namespace Go.Proofs.Ytbnonekkjjcdgaa
open Go Go.RowKit Go.Shelf Hp
set_option maxRecDepth 10000
set_option maxHeartbeats 1000000
set_option linter.unusedVariables false
set_option linter.unusedSimpArgs false
attribute [local irreducible] WP WPs FnX IterX YdX RetP PanP Ch Back Join
/-- Who holds a number in a list of blocks. -/
def hd (m : Int) : List Blk → Int
  | [] => -1
  | b :: r => if b.t ≤ m then hd m r else if m < b.f then -1 else b.c
theorem atM_cons (n : Int) (b : Blk) (r : List Blk) : atM n (b :: r) = if b.t ≤ n then atM n r else if n < b.f then (-1, b.f) else (b.c, b.t) := by
  simp only [atM, dw]
  by_cases h : b.t ≤ n
  · rw [if_pos h, if_pos h]
  · rw [if_neg h, if_neg h]
theorem atM_hd (n : Int) : ∀ l : List Blk, (atM n l).1 = hd n l
  | [] => rfl
  | b :: r => by rw [atM_cons]; simp only [hd]; split; exact atM_hd n r; split <;> rfl
/-- A list of blocks in order, behind a block that ends at e and is c's. -/
def Can : Int → Int → List Blk → Prop
  | _, _, [] => True
  | e, c, b :: r => e ≤ b.f ∧ b.f < b.t ∧ b.t ≤ 100000000 ∧ 0 ≤ b.c ∧ b.c ≤ 7 ∧ ¬(b.f = e ∧ b.c = c) ∧ Can b.t b.c r
theorem can_of : ∀ (l : List Blk) (z : Blk), (∀ k, k < l.length → badB ((z :: l).getD k dB) (l.getD k dB) = false) → Can z.t z.c l
  | [], _, _ => trivial
  | b :: r, z, h => by
    have h0 := h 0 (by simp)
    simp only [List.getD_cons_zero, badB, rangeOk, carOk, Bool.or_eq_false_iff, Bool.not_eq_false', decide_eq_true_eq, decide_eq_false_iff_not, Bool.and_eq_false_iff] at h0
    obtain ⟨⟨⟨h1, h2⟩, h3⟩, h4⟩ := h0
    refine ⟨by omega, by omega, by omega, by omega, by omega, by omega, can_of r b fun k hk => ?_⟩
    have := h (k + 1) (by simpa using hk)
    simpa only [List.getD_cons_succ] using this
theorem valid_can {l : List Blk} (h : validB l = true) : Can 0 (-1) l := by
  simp only [validB, Bool.and_eq_true, decide_eq_true_eq, Bool.not_eq_true', List.any_eq_false, List.mem_range] at h
  refine can_of l ⟨0, 0, -1⟩ fun k hk => ?_
  have := h.2 k hk
  simp only [badAt, Bool.not_eq_true] at this
  cases k with
  | zero => exact this
  | succ k => simpa only [lastB, List.getD_cons_succ] using this
theorem hd_lt {m : Int} : ∀ {e c : Int} {l : List Blk}, Can e c l → m < e → hd m l = -1
  | _, _, [], _, _ => rfl
  | _, _, b :: r, h, hm => by obtain ⟨h1, h2, _⟩ := h; simp only [hd]; rw [if_neg (by omega), if_pos (by omega)]
theorem hd_rng {m : Int} : ∀ {e c : Int} {l : List Blk}, Can e c l → hd m l = -1 ∨ (0 ≤ hd m l ∧ hd m l ≤ 7)
  | _, _, [], _ => .inl rfl
  | _, _, b :: r, h => by
    obtain ⟨h1, h2, h3, h4, h5, h6, h7⟩ := h
    simp only [hd]; split; exact hd_rng h7; split; exact .inl rfl; exact .inr ⟨h4, h5⟩
/-- Maps in which the same numbers are held by the same are the same. -/
theorem can_eq : ∀ {l1 l2 : List Blk} {e c : Int}, Can e c l1 → Can e c l2 → (∀ m, e ≤ m → m < 100000000 → hd m l1 = hd m l2) → l1 = l2
  | [], [], _, _, _, _, _ => rfl
  | [], b :: r, e, c, _, h2, h => by
    obtain ⟨g1, g2, g3, g4, g5, g6, g7⟩ := h2
    have := h b.f g1 (by omega)
    simp only [hd] at this; rw [if_neg (by omega), if_neg (by omega)] at this; omega
  | b :: r, [], e, c, h1, _, h => by
    obtain ⟨g1, g2, g3, g4, g5, g6, g7⟩ := h1
    have := h b.f g1 (by omega)
    simp only [hd] at this; rw [if_neg (by omega), if_neg (by omega)] at this; omega
  | b :: r, b' :: r', e, c, h1, h2, h => by
    obtain ⟨g1, g2, g3, g4, g5, g6, g7⟩ := h1
    obtain ⟨k1, k2, k3, k4, k5, k6, k7⟩ := h2
    have ef : b.f = b'.f := by
      rcases Int.lt_trichotomy b.f b'.f with hl | hl | hl
      · have := h b.f g1 (by omega)
        simp only [hd] at this; rw [if_neg (by omega), if_neg (by omega), if_neg (by omega), if_pos (by omega)] at this; omega
      · exact hl
      · have := h b'.f k1 (by omega)
        simp only [hd] at this; rw [if_neg (by omega), if_pos (by omega), if_neg (by omega), if_neg (by omega)] at this; omega
    have ec : b.c = b'.c := by
      have := h b.f g1 (by omega)
      simp only [hd] at this; rw [if_neg (by omega), if_neg (by omega), if_neg (by omega), if_neg (by omega)] at this; exact this
    have adj : ∀ {t x : Int} {q : List Blk}, Can t x q → 0 ≤ x → hd t q ≠ x := by
      intro t x q hq hx
      cases q with
      | nil => simp only [hd]; omega
      | cons z q =>
        obtain ⟨z1, z2, z3, z4, z5, z6, z7⟩ := hq
        simp only [hd]; rw [if_neg (by omega)]
        split
        · omega
        · intro hz; exact z6 ⟨by omega, hz⟩
    have et : b.t = b'.t := by
      rcases Int.lt_trichotomy b.t b'.t with hl | hl | hl
      · have := h b.t (by omega) (by omega)
        simp only [hd] at this; rw [if_pos (by omega), if_neg (by omega), if_neg (by omega)] at this
        exact absurd (this.trans ec.symm) (adj g7 g4)
      · exact hl
      · have := h b'.t (by omega) (by omega)
        simp only [hd] at this; rw [if_neg (by omega), if_neg (by omega), if_pos (by omega)] at this
        exact absurd (this.symm.trans ec) (adj k7 k4)
    have eb : b = b' := by cases b; cases b'; simp_all
    subst eb
    congr 1
    refine can_eq g7 k7 fun m hm1 hm2 => ?_
    have := h m (by omega) hm2
    simp only [hd] at this; rwa [if_pos hm1, if_pos hm1] at this
/-! ### what combine holds -/
theorem hd_snoc {m : Int} {z : Blk} (hz : z.f < z.t) : ∀ {l : List Blk}, (∀ b ∈ l, b.t ≤ z.f) → hd m (l ++ [z]) = if m < z.f then hd m l else if m < z.t then z.c else -1
  | [], _ => by
    simp only [List.nil_append, hd]
    split
    · rw [if_neg (by omega), if_neg (by omega)]
    · split
      · rfl
      · rw [if_pos (by omega)]
  | b :: l, h => by
    have ih := hd_snoc (m := m) hz (l := l) fun x hx => h x (List.mem_cons_of_mem _ hx)
    have hb := h b List.mem_cons_self
    simp only [List.cons_append, hd]
    split
    · exact ih
    · rw [if_pos (show m < z.f by omega)]
/-- The pieces so far make a list of blocks up to n. -/
def Asc (n : Int) (out : List Blk) : Prop := out = [] ∨ ∃ l z, out = l ++ [z] ∧ (∀ b ∈ l, b.t ≤ z.f) ∧ z.f < z.t ∧ z.t ≤ n
theorem asc_out {n m : Int} {out : List Blk} (h : Asc n out) (hm : n ≤ m) : hd m out = -1 := by
  obtain rfl | ⟨l, z, rfl, h1, h2, h3⟩ := h
  · rfl
  · rw [hd_snoc h2 h1, if_neg (by omega), if_neg (by omega)]
theorem asc_le {n : Int} {out : List Blk} (h : Asc n out) : ∀ b ∈ out, b.t ≤ n := by
  obtain rfl | ⟨l, z, rfl, h1, h2, h3⟩ := h
  · simp
  · intro b hb
    rcases List.mem_append.1 hb with hb | hb
    · have := h1 b hb; omega
    · cases List.mem_singleton.1 hb; exact h3
theorem addP_step {hol : Int → Int → Int} {n n' x y : Int} {out : List Blk} (hn : n < n') (h : Asc n out) :
    Asc n' (addP hol out (n, n', x, y)) ∧ ∀ m, hd m (addP hol out (n, n', x, y)) = if n ≤ m ∧ m < n' then hol x y else hd m out := by
  simp only [addP]
  split
  · rename_i hk
    refine ⟨?_, fun m => ?_⟩
    · obtain h | ⟨l, z, h0, h1, h2, h3⟩ := h
      · exact .inl h
      · exact .inr ⟨l, z, h0, h1, h2, by omega⟩
    · split
      · rw [asc_out h (by omega), hk]
      · rfl
  · rename_i hk
    obtain rfl | ⟨l, z, rfl, h1, h2, h3⟩ := id h
    · simp only [List.getLast?_nil]
      refine ⟨.inr ⟨[], _, rfl, by simp, hn, Int.le_refl _⟩, fun m => ?_⟩
      simp only [hd]
      split
      · rw [if_neg (by omega)]
      · split
        · rw [if_neg (by omega)]
        · rw [if_pos (by omega)]
    · simp only [List.getLast?_concat, List.dropLast_concat]
      split
      · rename_i hz
        refine ⟨.inr ⟨l, _, rfl, h1, by dsimp only; omega, Int.le_refl _⟩, fun m => ?_⟩
        rw [hd_snoc (z := ⟨z.f, n', z.c⟩) (by dsimp only; omega) h1, hd_snoc h2 h1]
        dsimp only
        split
        · rw [if_neg (by omega)]
        · split
          · split
            · exact hz.2
            · rw [if_pos (by omega)]
          · rw [if_neg (by omega), if_neg (by omega)]
      · refine ⟨.inr ⟨l ++ [z], _, rfl, asc_le h, hn, Int.le_refl _⟩, fun m => ?_⟩
        rw [hd_snoc (z := ⟨n, n', hol x y⟩) hn (asc_le h)]
        dsimp only
        split
        · rw [if_neg (by omega)]
        · split
          · rw [if_pos (by omega)]
          · rw [if_neg (by omega), asc_out h (by omega)]
theorem atM_const {n m : Int} : ∀ {l : List Blk} {e c : Int}, Can e c l → n ≤ m → m < (atM n l).2 → hd m l = hd n l
  | [], _, _, _, _, _ => rfl
  | b :: r, _, _, h, hn, hm => by
    obtain ⟨g1, g2, g3, g4, g5, g6, g7⟩ := h
    rw [atM_cons] at hm
    simp only [hd]
    split at hm
    · rw [if_pos (by omega), if_pos (by omega)]; exact atM_const g7 hn hm
    · split at hm
      · dsimp only at hm; rw [if_neg (by omega), if_pos (by omega), if_neg (by omega), if_pos (by omega)]
      · dsimp only at hm; rw [if_neg (by omega), if_neg (by omega), if_neg (by omega), if_neg (by omega)]
theorem foldP_hd {hol : Int → Int → Int} {a b : List Blk} {ea ca eb cb : Int} (ha : Can ea ca a) (hb : Can eb cb b) : ∀ (k : Nat) (n : Int) (out : List Blk), (100000000 - n).toNat ≤ k → Asc n out → (∀ m, 0 ≤ m → m < n → hd m out = hol (hd m a) (hd m b)) →
    ∀ m, 0 ≤ m → m < 100000000 → hd m ((pcs k n a b).foldl (addP hol) out) = hol (hd m a) (hd m b)
  | 0, n, out, hk, _, ho, m, h0, h1 => by simp only [pcs, List.foldl_nil]; exact ho m h0 (by omega)
  | k + 1, n, out, hk, hs, ho, m, h0, h1 => by
    simp only [pcs]
    split
    · rename_i hn
      have ga := atM_gt hn a
      have gb := atM_gt hn b
      have hlt : n < nextM n a b := by simp only [nextM]; omega
      obtain ⟨hs', hh⟩ := addP_step (hol := hol) (x := (atM n a).1) (y := (atM n b).1) hlt hs
      rw [List.foldl_cons]
      refine foldP_hd ha hb k _ _ (by omega) hs' (fun j hj0 hj1 => ?_) m h0 h1
      rw [hh j]
      split
      · rename_i hj
        rw [atM_hd, atM_hd, atM_const (n := n) ha hj.1 (by simp only [nextM] at hj; omega), atM_const (n := n) hb hj.1 (by simp only [nextM] at hj; omega)]
      · exact ho j hj0 (by omega)
    · simp only [List.foldl_nil]; exact ho m h0 (by omega)
theorem comb_hd {hol : Int → Int → Int} {a b : List Blk} {ea ca eb cb : Int} (ha : Can ea ca a) (hb : Can eb cb b) {m : Int} (h0 : 0 ≤ m) (h1 : m < 100000000) : hd m (combOut a b hol) = hol (hd m a) (hd m b) :=
  foldP_hd ha hb 100000000 0 [] (by decide) (.inl rfl) (fun m h0 h1 => by omega) m h0 h1
theorem combM_hd {hol : Int → Int → Int} {a b : List Blk} {ea ca eb cb : Int} (ha : Can ea ca a) (hb : Can eb cb b) (h2 : ¬ (combM a b hol).2 ≠ 0) {m : Int} (h0 : 0 ≤ m) (h1 : m < 100000000) : hd m (combM a b hol).1 = hol (hd m a) (hd m b) := by
  unfold combM at h2 ⊢
  split
  · rename_i h; rw [if_pos h] at h2; simp at h2
  · exact comb_hd ha hb h0 h1
/-! ### bits -/
theorem bits_all : ∀ s : Fin 256, ∀ i j : Fin 8, i ≠ j → bits64 .andNot (bits64 .or (s.val : Int) (1 * 2 ^ i.val)) (1 * 2 ^ j.val) = bits64 .or (bits64 .andNot (s.val : Int) (1 * 2 ^ j.val)) (1 * 2 ^ i.val)
   ∧ bits64 .or (bits64 .or (s.val : Int) (1 * 2 ^ i.val)) (1 * 2 ^ j.val) = bits64 .or (bits64 .or (s.val : Int) (1 * 2 ^ j.val)) (1 * 2 ^ i.val)
   ∧ bits64 .andNot (bits64 .andNot (s.val : Int) (1 * 2 ^ i.val)) (1 * 2 ^ j.val) = bits64 .andNot (bits64 .andNot (s.val : Int) (1 * 2 ^ j.val)) (1 * 2 ^ i.val) := by decide +kernel
theorem and_le {x y : Int} (h0 : 0 ≤ y) (h1 : y ≤ 255) : bits64 .and x y ≤ 255 := by
  obtain ⟨n, rfl⟩ := Int.eq_ofNat_of_zero_le h0
  simp only [bits64]
  have h2 : ((BitVec.ofInt 64 x &&& BitVec.ofInt 64 (n : Int)).toNat : Nat) ≤ 255 := by
    rw [BitVec.toNat_and]
    refine Nat.le_trans Nat.and_le_right ?_
    rw [show (BitVec.ofInt 64 (n : Int)) = BitVec.ofNat 64 n from by simp, BitVec.toNat_ofNat]
    have : n < 2 ^ 64 := by omega
    rw [Nat.mod_eq_of_lt this]; omega
  rw [show IntKind.i64.wrap ((BitVec.ofInt 64 x &&& BitVec.ofInt 64 (n : Int)).toNat : Nat) = ((BitVec.ofInt 64 x &&& BitVec.ofInt 64 (n : Int)).toNat : Nat) from Hp.wrap_in (by unfold in64; omega)]
  omega
end Go.Proofs.Ytbnonekkjjcdgaa
/- What an event does to a world, and that two events without a common carrier may change places. -/
namespace Go.Proofs.Ytbnonekkjjcdgaa
open Go Go.RowKit Go.Shelf Hp
set_option maxRecDepth 10000
set_option maxHeartbeats 1000000
set_option linter.unusedVariables false
set_option linter.unusedSimpArgs false
attribute [local irreducible] WP WPs FnX IterX YdX RetP PanP Ch Back Join
def inV (e : Ev) (m : Int) : Prop := e.f ≤ m ∧ m < e.to
instance (e : Ev) (m : Int) : Decidable (inV e m) := inferInstanceAs (Decidable (_ ∧ _))
/-- Who holds behind an event what its carrier A held. -/
def subE (e : Ev) (m : Int) : Int := if e.kind = 1 then e.b else if e.kind = 2 then (if inV e m then e.b else e.a) else (if inV e m then e.b else e.c)
def alvE (e : Ev) (s : Int) : Int := if e.kind = 2 then bits64 .or s (1 * 2 ^ e.b.toNat) else bits64 .andNot s (1 * 2 ^ e.a.toNat)
def evrE (e : Ev) (s : Int) : Int := if e.kind = 2 then bits64 .or s (1 * 2 ^ e.b.toNat) else s
def balE (e : Ev) (l : List Int) : List Int :=
  if e.kind = 1 then (l.set e.b.toNat (l.getD e.b.toNat 0 + l.getD e.a.toNat 0)).set e.a.toNat 0
  else if e.kind = 2 then (l.set e.a.toNat (l.getD e.a.toNat 0 - e.m)).set e.b.toNat e.m
  else ((l.set e.b.toNat (l.getD e.b.toNat 0 + e.m)).set e.c.toNat ((l.set e.b.toNat (l.getD e.b.toNat 0 + e.m)).getD e.c.toNat 0 + ((l.set e.b.toNat (l.getD e.b.toNat 0 + e.m)).getD e.a.toNat 0 - e.m))).set e.a.toNat 0
def levE (e : Ev) (l : List Int) : List Int := if e.kind = 2 then l.set e.b.toNat (l.getD e.a.toNat 0) else l.set e.a.toNat 0
/-- What an event does. -/
structure Eff (w w' : Wd) (e : Ev) : Prop where
  v : VParts w
  v' : VParts w'
  hold : ∀ m, 0 ≤ m → m < 100000000 → hd m w'.blocks = if hd m w.blocks = e.a then subE e m else hd m w.blocks
  alive : w'.alive = alvE e w.alive
  ever : w'.ever = evrE e w.ever
  bal : w'.bal = balE e w.bal
  lev : w'.lev = levE e w.lev
theorem hd_one (f t : Int) (h : f < t) (m : Int) : hd m [⟨f, t, 0⟩] = if f ≤ m ∧ m < t then 0 else -1 := by
  simp only [hd]
  split
  · rw [if_neg (by omega)]
  · split
    · rw [if_neg (by omega)]
    · rw [if_pos (by omega)]
theorem can_one {f t : Int} (h : rangeOk f t = true) : Can 0 (-1) [⟨f, t, 0⟩] := by
  simp only [rangeOk, decide_eq_true_eq] at h
  exact ⟨by dsimp only; omega, by dsimp only; omega, by dsimp only; omega, by simp, by simp, by simp, trivial⟩
theorem swap_hd {l : List Blk} {f t : Int} (h : ¬ (swapB l f t).2 ≠ 0) : validB l = true ∧ carOk f = true ∧ ∀ m, 0 ≤ m → m < 100000000 → hd m (swapB l f t).1 = if hd m l = f then t else hd m l := by
  unfold swapB at h ⊢
  split at h
  · simp at h
  · rename_i hc
    simp only [Bool.or_eq_true, Bool.not_eq_true', not_or, Bool.not_eq_false] at hc
    refine ⟨hc.1.1, hc.1.2, fun m h0 h1 => ?_⟩
    rw [if_neg (by simp [hc.1.1, hc.1.2, hc.2]), combM_hd (valid_can hc.1.1) (eb := 0) (cb := -1) (by simp only [Can]) h h0 h1]; rfl
theorem only_hd {l : List Blk} {f t : Int} (h : ¬ (onlyB l f t).2 ≠ 0) : ∀ m, 0 ≤ m → m < 100000000 → hd m (onlyB l f t).1 = if f ≤ m ∧ m < t then hd m l else -1 := by
  unfold onlyB at h ⊢
  split at h
  · simp at h
  · rename_i hc
    simp only [Bool.or_eq_true, Bool.not_eq_true', not_or, Bool.not_eq_false] at hc
    intro m h0 h1
    rw [if_neg (by simp [hc.1, hc.2]), combM_hd (valid_can hc.1) (can_one hc.2) h h0 h1]
    have hr := hc.2
    simp only [rangeOk, decide_eq_true_eq] at hr
    rw [hd_one f t hr.2.1]
    unfold onlyM
    split <;> simp
theorem over_hd {a b : List Blk} (h : ¬ (overlayB a b).2 ≠ 0) : ∀ m, 0 ≤ m → m < 100000000 → hd m (overlayB a b).1 = if hd m b = -1 then hd m a else hd m b := by
  unfold overlayB at h ⊢
  split at h
  · simp at h
  · rename_i hc
    simp only [Bool.or_eq_true, Bool.not_eq_true', not_or, Bool.not_eq_false] at hc
    intro m h0 h1
    rw [if_neg (by simp [hc.1, hc.2]), combM_hd (valid_can hc.1) (valid_can hc.2) h h0 h1]; rfl
theorem carOk_iff {c : Int} : carOk c = true ↔ 0 ≤ c ∧ c ≤ 7 := by simp [carOk]
theorem merge_eff {w w' : Wd} {e : Ev} (hk : e.kind = 1) (hv : VParts w) (hv' : VParts w') (h : mergeW w e = some w') : Eff w w' e := by
  unfold mergeW at h
  split at h
  · cases h
  · split at h
    · cases h
    · rename_i h1
      obtain ⟨_, _, hh⟩ := swap_hd h1
      cases h
      refine ⟨hv, hv', fun m h0 h1 => ?_, ?_, ?_, ?_, ?_⟩
      · simp only [endW, subE, hk, if_true]; exact hh m h0 h1
      · simp [endW, alvE, hk]
      · simp [endW, evrE, hk]
      · simp [endW, balE, hk]
      · simp [endW, levE, hk]
theorem split_eff {w w' : Wd} {e : Ev} (hk : e.kind = 2) (hb : 0 ≤ e.b) (hv : VParts w) (hv' : VParts w') (h : splitW w e = some w') : Eff w w' e := by
  unfold splitW at h
  repeat' (first | (split at h) | (cases h; done))
  rename_i _ h1 h2 h3
  have g1 := only_hd h1
  obtain ⟨_, ca, g2⟩ := swap_hd h2
  have g3 := over_hd h3
  cases h
  refine ⟨hv, hv', fun m h0 h1 => ?_, ?_, ?_, ?_, ?_⟩
  · dsimp only
    rw [g3 m h0 h1, g2 m h0 h1, g1 m h0 h1]
    have ha := (carOk_iff.1 ca).1
    simp only [subE, hk, inV]
    have hr := hd_rng (m := m) (valid_can hv.blk)
    generalize hd m w.blocks = x at hr
    (repeat' split) <;> simp_all <;> omega
  · simp [alvE, hk]
  · simp [evrE, hk]
  · simp [balE, hk]
  · simp [levE, hk]
theorem wind_eff {w w' : Wd} {e : Ev} (hk : e.kind = 3) (hb : 0 ≤ e.b) (hv : VParts w) (hv' : VParts w') (h : windW w e = some w') : Eff w w' e := by
  unfold windW at h
  repeat' (first | (split at h) | (cases h; done))
  rename_i _ h1 h2 h3 h4
  have g1 := only_hd h1
  obtain ⟨_, ca, g2⟩ := swap_hd h2
  obtain ⟨_, _, g3⟩ := swap_hd h3
  have g4 := over_hd h4
  cases h
  refine ⟨hv, hv', fun m h0 h1 => ?_, ?_, ?_, ?_, ?_⟩
  · simp only [endW]
    rw [g4 m h0 h1, g3 m h0 h1, g2 m h0 h1, g1 m h0 h1]
    have ha := (carOk_iff.1 ca).1
    simp only [subE, hk, inV]
    have hr := hd_rng (m := m) (valid_can hv.blk)
    generalize hd m w.blocks = x at hr
    (repeat' split) <;> simp_all <;> omega
  · simp [endW, alvE, hk]
  · simp [endW, evrE, hk]
  · simp [endW, balE, windBal, hk]
  · simp [endW, levE, hk]
theorem step_eff {w : Wd} {e : Ev} (hg : GoodE 0 e) (hk : e.kind ≠ 4) (h : (stepM w e).2 = 0) : Eff w (stepM w e).1 e := by
  unfold stepM at h ⊢
  split at h
  · rename_i hv
    rw [if_pos hv]
    split at h
    · rename_i w' hs
      have hv' := (valid_iff w').1 (stepW_valid hs)
      have hv0 := (valid_iff w).1 hv
      have hd : doW w e = some w' := by
        unfold stepW at hs
        split at hs
        · cases hs
        · split at hs
          · cases hs
          · rename_i w2 hd
            split at hs
            · cases hs; exact hd
            · cases hs
      dsimp only
      have h1 := hg.k1
      have h4 := hg.k4
      have : e.kind = 1 ∨ e.kind = 2 ∨ e.kind = 3 := by omega
      rcases this with h | h | h
      · rw [doW1 h] at hd; exact merge_eff h hv0 hv' hd
      · rw [doW2 h] at hd; exact split_eff h hg.b0 hv0 hv' hd
      · rw [doW3 h] at hd; exact wind_eff h hg.b0 hv0 hv' hd
    · simp at h
  · simp at h
/-! ### lists of eight numbers that an event changes in its own places -/
/-- A change of a list in some places, that depends on these places only. -/
structure Loc (U : Nat → Prop) (F : List Int → List Int) : Prop where
  len : ∀ l, (F l).length = l.length
  out : ∀ l i, ¬ U i → (F l).getD i 0 = l.getD i 0
  dep : ∀ l l' : List Int, l.length = l'.length → (∀ i, U i → l.getD i 0 = l'.getD i 0) → ∀ i, U i → (F l).getD i 0 = (F l').getD i 0
theorem getD_set {l : List Int} {i j : Nat} {v : Int} : (l.set i v).getD j 0 = if i = j ∧ i < l.length then v else l.getD j 0 := by
  simp only [List.getD_eq_getElem?_getD, List.getElem?_set]
  split
  · rename_i h; subst h
    split
    · rename_i h; rw [if_pos ⟨rfl, h⟩]; rfl
    · rename_i h; rw [if_neg (by omega), List.getElem?_eq_none (by omega)]
  · rename_i h; rw [if_neg (by omega)]
theorem Loc.set {U : Nat → Prop} {i : Nat} (hi : U i) {v : List Int → Int} (hv : ∀ l l' : List Int, l.length = l'.length → (∀ i, U i → l.getD i 0 = l'.getD i 0) → v l = v l') : Loc U fun l => l.set i (v l) where
  len l := by simp
  out l j hj := by rw [getD_set, if_neg (by rintro ⟨rfl, _⟩; exact hj hi)]
  dep l l' hl h j hj := by rw [getD_set, getD_set, hl, hv l l' hl h, h j hj]
theorem Loc.comp {U : Nat → Prop} {F G : List Int → List Int} (hF : Loc U F) (hG : Loc U G) : Loc U fun l => G (F l) where
  len l := by rw [hG.len, hF.len]
  out l i hi := by rw [hG.out _ _ hi, hF.out _ _ hi]
  dep l l' hl h i hi := hG.dep _ _ (by rw [hF.len, hF.len, hl]) (hF.dep l l' hl h) i hi
theorem Loc.comm {U W : Nat → Prop} {F G : List Int → List Int} (hF : Loc U F) (hG : Loc W G) (hd : ∀ i, U i → W i → False) [DecidablePred U] [DecidablePred W] (l : List Int) : G (F l) = F (G l) := by
  refine ext_getD (d := 0) (by rw [hG.len, hF.len, hF.len, hG.len]) fun i _ => ?_
  by_cases hu : U i
  · rw [hG.out _ _ (fun h => hd i hu h)]
    exact hF.dep _ _ (by rw [hG.len]) (fun j hj => (hG.out _ _ fun h => hd j hj h).symm) i hu
  · rw [hF.out _ _ hu]
    by_cases hw : W i
    · exact hG.dep _ _ (by rw [hF.len]) (fun j hj => hF.out _ _ fun h => hd j h hj) i hw
    · rw [hG.out _ _ hw, hG.out _ _ hw, hF.out _ _ hu]
abbrev UE (e : Ev) (i : Nat) : Prop := i = e.a.toNat ∨ i = e.b.toNat ∨ (e.kind = 3 ∧ i = e.c.toNat)
theorem bal_loc (e : Ev) (h : e.kind = 1 ∨ e.kind = 2 ∨ e.kind = 3) : Loc (UE e) (balE e) := by
  have ua : UE e e.a.toNat := .inl rfl
  have ub : UE e e.b.toNat := .inr (.inl rfl)
  rcases h with h | h | h
  · have h1 : Loc (UE e) fun l => l.set e.b.toNat (l.getD e.b.toNat 0 + l.getD e.a.toNat 0) := Loc.set ub fun l l' _ h => by rw [h _ ua, h _ ub]
    have := h1.comp (Loc.set ua (v := fun _ => 0) fun _ _ _ _ => rfl)
    rw [show balE e = _ from funext fun l => by simp only [balE, h, if_true]; rfl]; exact this
  · have h1 : Loc (UE e) fun l => l.set e.a.toNat (l.getD e.a.toNat 0 - e.m) := Loc.set ua fun l l' _ h => by rw [h _ ua]
    have := h1.comp (Loc.set ub (v := fun _ => e.m) fun _ _ _ _ => rfl)
    rw [show balE e = _ from funext fun l => by simp only [balE, h]; rfl]; exact this
  · have uc : UE e e.c.toNat := .inr (.inr ⟨h, rfl⟩)
    have h1 : Loc (UE e) fun l => l.set e.b.toNat (l.getD e.b.toNat 0 + e.m) := Loc.set ub fun l l' _ h => by rw [h _ ub]
    have h2 := h1.comp (Loc.set uc (v := fun l => l.getD e.c.toNat 0 + (l.getD e.a.toNat 0 - e.m)) fun l l' _ h => by rw [h _ ua, h _ uc])
    have := h2.comp (Loc.set ua (v := fun _ => 0) fun _ _ _ _ => rfl)
    rw [show balE e = _ from funext fun l => by simp only [balE, h]; rfl]; exact this
theorem lev_loc (e : Ev) : Loc (UE e) (levE e) := by
  have ua : UE e e.a.toNat := .inl rfl
  have ub : UE e e.b.toNat := .inr (.inl rfl)
  by_cases h : e.kind = 2
  · rw [show levE e = _ from funext fun l => by simp only [levE, h, if_true]; rfl]
    exact Loc.set ub fun l l' _ h => h _ ua
  · rw [show levE e = _ from funext fun l => by simp only [levE, h, if_false]; rfl]
    exact Loc.set ua (v := fun _ => 0) fun _ _ _ _ => rfl
/-! ### the law -/
theorem common_ne {d e : Ev} (h : commonM d e = false) : ∀ x ∈ usedM d, ∀ y ∈ usedM e, x ≠ y := by
  intro x hx y hy he
  obtain ⟨k, hk, rfl⟩ := List.mem_iff_getElem.1 hx
  obtain ⟨j, hj, rfl⟩ := List.mem_iff_getElem.1 hy
  simp only [commonM, List.any_eq_false, List.mem_range, hitO, hitI, decide_eq_true_eq, Bool.not_eq_true] at h
  have h2 := h k hk j hj
  simp [hk, hj] at h2
  exact h2 he
theorem used_ab (e : Ev) : e.a ∈ usedM e ∧ e.b ∈ usedM e ∧ (e.kind = 3 → e.c ∈ usedM e) := by
  unfold usedM; split <;> simp_all
theorem sub_used (e : Ev) (m : Int) (h : e.kind = 1 ∨ e.kind = 2 ∨ e.kind = 3) : subE e m ∈ usedM e := by
  obtain ⟨ha, hb, hc⟩ := used_ab e
  rcases h with h | h | h
  · simpa [subE, h] using hb
  · simp only [subE, h]; rw [if_neg (by omega), if_pos trivial]; split; exact hb; exact ha
  · simp only [subE, h]; rw [if_neg (by omega), if_neg (by omega)]; split; exact hb; exact hc h
theorem alive_range {w : Wd} (h : VParts w) : 0 ≤ w.alive ∧ w.alive ≤ 255 := by
  refine ⟨h.pos, ?_⟩
  have := h.ever
  simp only [inM, Bool.and_eq_true, decide_eq_true_eq] at this
  rw [← h.sub]; exact and_le this.1 this.2
theorem bits_use {s i j : Int} (hs0 : 0 ≤ s) (hs1 : s ≤ 255) (hi0 : 0 ≤ i) (hi1 : i ≤ 7) (hj0 : 0 ≤ j) (hj1 : j ≤ 7) (hij : i ≠ j) :
    bits64 .andNot (bits64 .or s (1 * 2 ^ i.toNat)) (1 * 2 ^ j.toNat) = bits64 .or (bits64 .andNot s (1 * 2 ^ j.toNat)) (1 * 2 ^ i.toNat)
    ∧ bits64 .or (bits64 .or s (1 * 2 ^ i.toNat)) (1 * 2 ^ j.toNat) = bits64 .or (bits64 .or s (1 * 2 ^ j.toNat)) (1 * 2 ^ i.toNat)
    ∧ bits64 .andNot (bits64 .andNot s (1 * 2 ^ i.toNat)) (1 * 2 ^ j.toNat) = bits64 .andNot (bits64 .andNot s (1 * 2 ^ j.toNat)) (1 * 2 ^ i.toNat) := by
  have h := bits_all ⟨s.toNat, by omega⟩ ⟨i.toNat, by omega⟩ ⟨j.toNat, by omega⟩ (by simp only [ne_eq, Fin.mk.injEq]; omega)
  dsimp only at h
  rwa [Int.toNat_of_nonneg hs0] at h
theorem alv_comm {d e : Ev} {s : Int} (hs0 : 0 ≤ s) (hs1 : s ≤ 255) (hd : GoodE 0 d) (he : GoodE 0 e) (hn : ∀ x ∈ usedM d, ∀ y ∈ usedM e, x ≠ y) : alvE e (alvE d s) = alvE d (alvE e s) := by
  obtain ⟨da, db, _⟩ := used_ab d
  obtain ⟨ea, eb, _⟩ := used_ab e
  unfold alvE
  split <;> split
  · exact (bits_use hs0 hs1 hd.b0 hd.b7 he.b0 he.b7 (hn _ db _ eb)).2.1
  · exact (bits_use hs0 hs1 he.b0 he.b7 hd.a0 hd.a7 (Ne.symm (hn _ da _ eb))).1.symm
  · exact (bits_use hs0 hs1 hd.b0 hd.b7 he.a0 he.a7 (hn _ db _ ea)).1
  · exact (bits_use hs0 hs1 hd.a0 hd.a7 he.a0 he.a7 (hn _ da _ ea)).2.2
theorem evr_comm {d e : Ev} {s : Int} (hs0 : 0 ≤ s) (hs1 : s ≤ 255) (hd : GoodE 0 d) (he : GoodE 0 e) (hn : ∀ x ∈ usedM d, ∀ y ∈ usedM e, x ≠ y) : evrE e (evrE d s) = evrE d (evrE e s) := by
  obtain ⟨da, db, _⟩ := used_ab d
  obtain ⟨ea, eb, _⟩ := used_ab e
  unfold evrE
  split <;> split
  · exact (bits_use hs0 hs1 hd.b0 hd.b7 he.b0 he.b7 (hn _ db _ eb)).2.1
  all_goals rfl
theorem order_law : OrderLaw := by
  intro w d e hd he hkd hke hcm s1 s2 s3 s4
  have A := step_eff hd hkd s1
  have AB := step_eff he hke s2
  have B := step_eff he hke s3
  have BA := step_eff hd hkd s4
  have hn := common_ne hcm
  have kd : d.kind = 1 ∨ d.kind = 2 ∨ d.kind = 3 := by have := hd.k1; have := hd.k4; omega
  have ke : e.kind = 1 ∨ e.kind = 2 ∨ e.kind = 3 := by have := he.k1; have := he.k4; omega
  obtain ⟨da, db, dc⟩ := used_ab d
  obtain ⟨ea, eb, ec⟩ := used_ab e
  have hdis : ∀ i, UE d i → UE e i → False := by
    have := hd.a0; have := hd.b0; have := hd.c0; have := he.a0; have := he.b0; have := he.c0
    rintro i (h | h | ⟨h3, h⟩) (g | g | ⟨g3, g⟩)
    · exact hn _ da _ ea (by omega)
    · exact hn _ da _ eb (by omega)
    · exact hn _ da _ (ec g3) (by omega)
    · exact hn _ db _ ea (by omega)
    · exact hn _ db _ eb (by omega)
    · exact hn _ db _ (ec g3) (by omega)
    · exact hn _ (dc h3) _ ea (by omega)
    · exact hn _ (dc h3) _ eb (by omega)
    · exact hn _ (dc h3) _ (ec g3) (by omega)
  obtain ⟨r0, r1⟩ := alive_range A.v
  have hev := A.v.ever
  simp only [inM, Bool.and_eq_true, decide_eq_true_eq] at hev
  simp only [eqW, Bool.and_eq_true, decide_eq_true_eq]
  refine ⟨⟨⟨⟨?_, ?_⟩, ?_⟩, ?_⟩, ?_⟩
  · rw [AB.alive, A.alive, BA.alive, B.alive]; exact alv_comm r0 r1 hd he hn
  · rw [AB.ever, A.ever, BA.ever, B.ever]; exact evr_comm hev.1 hev.2 hd he hn
  · refine can_eq (valid_can AB.v'.blk) (valid_can BA.v'.blk) fun m h0 h1 => ?_
    rw [AB.hold m h0 h1, A.hold m h0 h1, BA.hold m h0 h1, B.hold m h0 h1]
    have u1 := sub_used d m kd
    have u2 := sub_used e m ke
    have q1 := hn _ u1 _ ea
    have q2 := hn _ da _ u2
    have q3 := hn _ da _ ea
    generalize Go.Proofs.Ytbnonekkjjcdgaa.hd m w.blocks = x
    by_cases c1 : x = d.a
    · subst c1; rw [if_pos rfl, if_neg q1, if_neg q3, if_pos rfl]
    · rw [if_neg c1]
      by_cases c2 : x = e.a
      · subst c2; rw [if_pos rfl, if_neg (Ne.symm q2)]
      · rw [if_neg c2, if_neg c1]
  · rw [AB.bal, A.bal, BA.bal, B.bal]; exact (bal_loc d kd).comm (bal_loc e ke) hdis _
  · rw [AB.lev, A.lev, BA.lev, B.lev]; exact (lev_loc d).comm (lev_loc e) hdis _
end Go.Proofs.Ytbnonekkjjcdgaa
