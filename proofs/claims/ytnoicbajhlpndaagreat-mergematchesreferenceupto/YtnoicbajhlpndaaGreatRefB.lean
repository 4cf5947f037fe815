/- The walks of the reference's Give, Take, Swap, Piece, Made; equality of maps, numbers and worlds. -/
import Derived.Test.YtnoicbajhlpndaaGreatRefA
namespace Go.Proofs.YtnoicbajhlpndaaGreat
open Go Go.RowKit Go.Shelf Hp
set_option maxRecDepth 10000
set_option maxHeartbeats 1000000
set_option linter.unusedVariables false
set_option linter.unusedSimpArgs false
attribute [local irreducible] WP WPs FnX IterX YdX RetP PanP Ch Back Join
theorem rvalid_len {l : List Blk} (h : rvalid l = true) : l.length ≤ 40 := by simp only [rvalid, Bool.and_eq_true, decide_eq_true_eq] at h; exact h.1
theorem combR_len (a b : List Blk) (way fr to : Int) : (combR a b way fr to).1.length ≤ 40 := by
  unfold combR; split
  · exact rvalid_len ‹_›
  · simp
def giveR (l : List Blk) (f t c : Int) : List Blk × Int := if (rvalid l && rangeOk f t && carOk c) = false then ([], 130) else combR l [⟨f, t, c⟩] 0 (-1) (-1)
def takeR (l : List Blk) (f t : Int) : List Blk × Int := if (rvalid l && rangeOk f t) = false then ([], 130) else combR l [⟨f, t, 0⟩] 1 (-1) (-1)
def swapR (l : List Blk) (f t : Int) : List Blk × Int := if (rvalid l && carOk f && carOk t) = false then ([], 130) else combR l [] 0 f t
theorem giveR_len (l : List Blk) (f t c : Int) : (giveR l f t c).1.length ≤ 40 := by unfold giveR; split; simp; exact combR_len _ _ _ _ _
theorem takeR_len (l : List Blk) (f t : Int) : (takeR l f t).1.length ≤ 40 := by unfold takeR; split; simp; exact combR_len _ _ _ _ _
theorem swapR_len (l : List Blk) (f t : Int) : (swapR l f t).1.length ≤ 40 := by unfold swapR; split; simp; exact combR_len _ _ _ _ _

theorem give_spec (l : List Blk) (hlen : l.length ≤ 1000000000) (fl : Bool) (f t c : Int) : Fn1 Tryz.prog 164 [V (l.map encB) fl, .agg [I f, I t], I c] (encR (giveR l f t c)) := by
 refine fnE_intro (N := 28) Tryz.func164 rfl rfl rfl ?_
 intro X
 refine h_seq<|H<|o_box Z Z K fun x1 => S Z K<|S Z K<|o_nil<|h_seq<|h_seq<|H<|G Z K<|o_call1 Z Z EntC.out K (rvalid_spec l hlen fl)<|o_not Z K ?_
 refine G Z K<|o_guard Z Z K (fun g3 => ?_) (fun g3 => ?_)
 ·
  have g3 : _ = false := g3
  refine O 0 Z Z Z Z K<|W Z Z g3 K<|o_call1 Z Z EntC.out K (rrange_spec _ _)<|W Z Z g3 K<|o_not Z K<|o_pickf Z g3 rfl K<|G Z K<|o_guard Z Z K (fun g5 => ?_) (fun g5 => ?_)
  ·
   have g5 : _ = false := g5
   refine G Z K<|W Z Z g5 K<|o_call1 Z Z EntC.out K (rcarrier_spec _)<|W Z Z g5 K<|o_not Z K<|o_pickf Z g5 rfl K<|o_nil<|h_cond Z (fun c7 => ?_) (fun c7 => ?_)
   ·
    refine h_seq<|H<|S Z K<|S Z K<|o_nil<|h_ret<|ret2' Z Z ?_
    have hq : giveR l f t c = ([], 130) := by unfold giveR; rw [if_pos (by simp_all)]
    rw [hq]; rfl
   ·
    refine h_skip<|h_seq<|H<|G Z K<|O 0 Z Z Z Z K<|G Z K<|o_call1 Z Z EntC.out K (one_spec _ _ _) ?_
    have hrl : l.length ≤ 40 := rvalid_len (by simp_all)
    refine o_call1 Z Z EntC.out K (rcombine_spec l [⟨f, t, c⟩] (by omega) (by simp) fl true 0 (-1) (-1)) ?_
    refine o_extract Z Z K<|o_extract Z Z K<|S Z K<|S Z K<|o_nil<|h_ret<|ret2' Z Z ?_
    have hq : giveR l f t c = _ := (by unfold giveR; rw [if_neg (by simp_all)])
    rw [hq]; rfl
  ·
   have g5 : _ = true := g5
   refine U Z Z g5 K<|U Z Z g5 K<|o_pickt Z g5 rfl K<|o_nil<|h_condt Z Z<|h_seq<|H<|S Z K<|S Z K<|o_nil<|h_ret<|ret2' Z Z ?_
   have hq : giveR l f t c = ([], 130) := by unfold giveR; rw [if_pos (by simp_all)]
   rw [hq]; rfl
 ·
  have g3 : _ = true := g3
  refine U Z Z g3 K<|U Z Z g3 K<|o_pickt Z g3 rfl K<|G Z K<|U Z Z Z K<|U Z Z Z K<|U Z Z Z K<|o_pickt Z Z Z K<|o_nil<|h_condt Z Z<|h_seq<|H ?_
  refine S Z K<|S Z K<|o_nil<|h_ret<|ret2' Z Z ?_
  have hq : giveR l f t c = ([], 130) := by unfold giveR; rw [if_pos (by simp_all)]
  rw [hq]; rfl

theorem take_spec (l : List Blk) (hlen : l.length ≤ 1000000000) (fl : Bool) (f t : Int) : Fn1 Tryz.prog 165 [V (l.map encB) fl, .agg [I f, I t]] (encR (takeR l f t)) := by
 refine fnE_intro (N := 20) Tryz.func165 rfl rfl rfl ?_
 intro X
 refine h_seq<|H<|o_box Z Z K fun x8 => S Z K<|S Z K<|o_nil<|h_seq<|h_seq<|H<|G Z K<|o_call1 Z Z EntC.out K (rvalid_spec l hlen fl)<|o_not Z K ?_
 refine G Z K<|o_guard Z Z K (fun g10 => ?_) (fun g10 => ?_)
 ·
  have g10 : _ = false := g10
  refine O 0 Z Z Z Z K<|W Z Z g10 K<|o_call1 Z Z EntC.out K (rrange_spec _ _)<|W Z Z g10 K<|o_not Z K<|o_pickf Z g10 rfl K<|o_nil<|h_cond Z (fun c12 => ?_) (fun c12 => ?_)
  ·
   refine h_seq<|H<|S Z K<|S Z K<|o_nil<|h_ret<|ret2' Z Z ?_
   have hq : takeR l f t = ([], 130) := by unfold takeR; rw [if_pos (by simp_all)]
   rw [hq]; rfl
  ·
   refine h_skip<|h_seq<|H<|G Z K<|O 0 Z Z Z Z K<|o_call1 Z Z EntC.out K (one_spec _ _ _) ?_
   have hrl : l.length ≤ 40 := rvalid_len (by simp_all)
   refine o_call1 Z Z EntC.out K (rcombine_spec l [⟨f, t, 0⟩] (by omega) (by simp) fl true 1 (-1) (-1)) ?_
   refine o_extract Z Z K<|o_extract Z Z K<|S Z K<|S Z K<|o_nil<|h_ret<|ret2' Z Z ?_
   have hq : takeR l f t = _ := (by unfold takeR; rw [if_neg (by simp_all)])
   rw [hq]; rfl
 ·
  have g10 : _ = true := g10
  refine U Z Z g10 K<|U Z Z g10 K<|o_pickt Z g10 rfl K<|o_nil<|h_condt Z Z<|h_seq<|H<|S Z K<|S Z K<|o_nil<|h_ret<|ret2' Z Z ?_
  have hq : takeR l f t = ([], 130) := by unfold takeR; rw [if_pos (by simp_all)]
  rw [hq]; rfl

theorem rswap_spec (l : List Blk) (hlen : l.length ≤ 1000000000) (fl : Bool) (f t : Int) : Fn1 Tryz.prog 116 [V (l.map encB) fl, I f, I t] (encR (swapR l f t)) := by
 refine fnE_intro (N := 27) Tryz.func116 rfl rfl rfl ?_
 intro X
 refine h_seq<|H<|S Z K<|S Z K<|o_nil<|h_seq<|h_seq<|H<|G Z K<|o_call1 Z Z EntC.out K (rvalid_spec l hlen fl)<|o_not Z K<|G Z K ?_
 refine o_guard Z Z K (fun g14 => ?_) (fun g14 => ?_)
 ·
  have g14 : _ = false := g14
  refine G Z K<|W Z Z g14 K<|o_call1 Z Z EntC.out K (rcarrier_spec _)<|W Z Z g14 K<|o_not Z K<|o_pickf Z g14 rfl K<|G Z K<|o_guard Z Z K (fun g16 => ?_) (fun g16 => ?_)
  ·
   have g16 : _ = false := g16
   refine G Z K<|W Z Z g16 K<|o_call1 Z Z EntC.out K (rcarrier_spec _)<|W Z Z g16 K<|o_not Z K<|o_pickf Z g16 rfl K<|o_nil<|h_cond Z (fun c18 => ?_) (fun c18 => ?_)
   ·
    refine h_seq<|H<|S Z K<|S Z K<|o_nil<|h_ret<|ret2' Z Z ?_
    have hq : swapR l f t = ([], 130) := by unfold swapR; rw [if_pos (by simp_all)]
    rw [hq]; rfl
   ·
    refine h_skip<|h_seq<|H<|G Z K<|G Z K<|G Z K ?_
    have hrl : l.length ≤ 40 := rvalid_len (by simp_all)
    refine o_call1 Z Z EntC.out K (rcombine_spec l [] (by omega) (by simp) fl true 0 f t) ?_
    refine o_extract Z Z K<|o_extract Z Z K<|S Z K<|S Z K<|o_nil<|h_ret<|ret2' Z Z ?_
    have hq : swapR l f t = _ := (by unfold swapR; rw [if_neg (by simp_all)])
    rw [hq]; rfl
  ·
   have g16 : _ = true := g16
   refine U Z Z g16 K<|U Z Z g16 K<|o_pickt Z g16 rfl K<|o_nil<|h_condt Z Z<|h_seq<|H<|S Z K<|S Z K<|o_nil<|h_ret<|ret2' Z Z ?_
   have hq : swapR l f t = ([], 130) := by unfold swapR; rw [if_pos (by simp_all)]
   rw [hq]; rfl
 ·
  have g14 : _ = true := g14
  refine U Z Z g14 K<|U Z Z g14 K<|o_pickt Z g14 rfl K<|G Z K<|U Z Z Z K<|U Z Z Z K<|U Z Z Z K<|o_pickt Z Z Z K<|o_nil<|h_condt Z Z<|h_seq<|H ?_
  refine S Z K<|S Z K<|o_nil<|h_ret<|ret2' Z Z ?_
  have hq : swapR l f t = ([], 130) := by unfold swapR; rw [if_pos (by simp_all)]
  rw [hq]; rfl

def pieceR (a b : Int) : Int × Int :=
  if pickM a 8 = 7 then (1666666 * pickM a 60, 1666666 * (pickM a 60 + 1 + pickM b (60 - pickM a 60)) + 40) else (pickM a 60, pickM a 60 + 1 + pickM b (60 - pickM a 60))
theorem piece_rng (a b : Int) : 0 ≤ pickM a 60 ∧ pickM a 60 ≤ 59 ∧ 0 ≤ pickM b (60 - pickM a 60) ∧ pickM a 60 + 1 + pickM b (60 - pickM a 60) ≤ 60 := by
  have h1 := pickM_range (c := a) (n := 60) (by omega)
  have h2 := pickM_range (c := b) (n := 60 - pickM a 60) (by omega)
  omega

theorem piece_spec (a b : Int) (ha : in64 a) (hb : in64 b) : Fn1 Tryz.prog 61 [I a, I b] (.agg [I (pieceR a b).1, I (pieceR a b).2]) := by
 refine fnE_intro (N := 30) Tryz.func61 rfl rfl rfl ?_
 intro X
 refine h_seq<|H<|o_alloc K fun x19 => o_nil<|h_seq<|H<|G Z K<|o_call1 Z Z EntC.out K (pick13_spec _ _ ha (by have h1 := piece_rng a b; omega)) ?_
 refine S Z K<|o_nil<|h_seq<|H<|G Z K<|G Z K<|o_add Z Z (by have h1 := piece_rng a b; unfold in64; (try dsimp only); omega) K ?_
 refine G Z K<|G Z K<|o_sub Z Z (by have h1 := piece_rng a b; unfold in64; (try dsimp only); omega) K ?_
 refine o_call1 Z Z EntC.out K (pick13_spec _ _ hb (by have h1 := piece_rng a b; omega)) ?_
 refine o_add Z Z (by have h1 := piece_rng a b; unfold in64; (try dsimp only); omega) K ?_
 refine o_build Z Z K<|o_alloc K fun x20 => ?_
 refine o_store 0 Z Z Z Z Z Z<|o_nil<|h_seq<|h_seq<|H<|G Z K<|o_call1 Z Z EntC.out K (pick13_spec _ _ ha (by have h1 := piece_rng a b; omega)) ?_
 refine o_cmp Z Z Z K<|o_nil<|h_cond Z (fun c22 => ?_) (fun c22 => ?_)
 ·
  refine H<|F Z Z K K<|O 0 Z Z Z Z K<|o_mul Z Z (by have h1 := piece_rng a b; unfold in64; (try dsimp only); omega) K ?_
  refine F Z Z K K<|O 0 Z Z Z Z K<|o_mul Z Z (by have h1 := piece_rng a b; unfold in64; (try dsimp only); omega) K ?_
  refine o_add Z Z (by have h1 := piece_rng a b; unfold in64; (try dsimp only); omega) K ?_
  refine o_build Z Z K ?_
  refine o_store 0 Z Z Z Z Z Z<|o_nil<|h_seq<|H<|O 0 Z Z Z Z K ?_
  refine o_store 1 Z Z Z Z Z Z<|o_nil<|h_ret ?_
  have hq : pieceR a b = _ := (by unfold pieceR; rw [if_pos (by simp_all)])
  exact retG [] (.cons (resC 1 rfl rfl rfl) .nil) (List.nil_sublist _) ⟨_, rfl, by rw [hq]; rfl, rfl⟩
 ·
  refine h_skip<|h_seq<|H<|O 0 Z Z Z Z K ?_
  refine o_store 1 Z Z Z Z Z Z<|o_nil<|h_ret ?_
  have hq : pieceR a b = _ := (by unfold pieceR; rw [if_neg (by simp_all)])
  exact retG [] (.cons (resC 1 rfl rfl rfl) .nil) (List.nil_sublist _) ⟨_, rfl, by rw [hq]; rfl, rfl⟩

def neB (a b : List Blk) (k : Nat) : Bool := !ceqs [.int .i64 (a.getD k dB).f, .int .i64 (a.getD k dB).t, .int .i64 (a.getD k dB).c] [.int .i64 (b.getD k dB).f, .int .i64 (b.getD k dB).t, .int .i64 (b.getD k dB).c]
theorem neB_iff (a b : List Blk) (k : Nat) : neB a b k = false ↔ a.getD k dB = b.getD k dB := by
  simp only [neB, Bool.not_eq_false', ceqs, ceq, Bool.and_eq_true, beq_iff_eq, decide_eq_true_eq, and_true]
  constructor
  · rintro ⟨h1, h2, h3⟩
    cases hx : a.getD k dB; cases hy : b.getD k dB
    simp_all
  · intro h; rw [h]; simp
def neI (a b : List Int) (k : Nat) : Bool := decide (a.getD k 0 ≠ b.getD k 0)
theorem ext_getD {α : Type} {a b : List α} {d : α} (h : a.length = b.length) (hk : ∀ k, k < a.length → a.getD k d = b.getD k d) : a = b := by
  apply List.ext_getElem h
  intro k h1 h2
  have := hk k h1
  simpa [h1, h2] using this

theorem same13_spec (a b : List Blk) (ha : a.length ≤ 1000000000) (hb : b.length ≤ 1000000000) (fa fb : Bool) : Fn1 Tryz.prog 32 [V (a.map encB) fa, V (b.map encB) fb] (B (decide (a = b))) := by
 refine fnE_intro (N := 26) Tryz.func32 rfl rfl rfl ?_
 intro X
 refine h_seq<|H<|S Z K<|o_nil<|h_seq<|h_seq<|H<|G Z K<|o_len Z K<|G Z K<|o_len Z K<|o_cmp Z Z Z K ?_
 refine o_nil<|h_cond Z (fun c24 => ?_) (fun c24 => ?_)
 ·
  refine h_seq<|H<|S Z K<|o_nil<|h_ret<|ret1' Z (B_eq ?_)
  rw [decide_eq_false]; intro hab; subst hab; have := c24; simp at this
 ·
  refine h_skip<|h_seq<|h_seq<|H<|S Z K<|o_nil<|h_block ?_
  have hll : a.length = b.length := by have := c24; simp at this; omega
  refine h_famS (ι := {k : Nat // k ≤ (a).length ∧ ∀ j, j < k → neB a b j = false}) (fun i => [(0, V (a.map encB) fa), (1, V (b.map encB) fb), (5, I (i.1 : Nat))]) (fun i => []) (fun i => (a).length - i.1) ⟨0, Nat.zero_le _, fun j hj => absurd hj (Nat.not_lt_zero j)⟩ (.refl _) (subT.cons Z (subT.cons Z (subT.cons Z subT.nil))) ?_
  rintro ⟨k, hk, hok⟩
  dsimp only
  by_cases hlt : k < (a).length
  ·
   refine h_seq<|h_seq<|H<|G Z K<|G Z K<|o_len Z K<|o_cmp Z Z Z K<|o_nil<|h_condt Z (by simp; omega) ?_
   refine h_skip<|h_seq<|h_block<|h_seq<|h_draw _ (List.nil_sublist _) [(0, .flo), (1, .flo), (2, .flo), (3, .val), (4, .flo), (5, .flo), (6, .flo), (7, .val), (8, .flo)] mixed (by kernel_rfl)<|C Z Z (fun jj => G Z K jj)<|C Z Z (fun jj => G Z K jj)<|C Z Z (fun jj => o_idxv Z Z (by omega) (eltBk (by simp; omega)) rfl K jj) ?_
   refine c_val Z Z (fun _ _ _ _ jj => o_loadv Z Z K jj)<|C Z Z (fun jj => G Z K jj)<|C Z Z (fun jj => G Z K jj)<|C Z Z (fun jj => o_idxv Z Z (by omega) (eltBk (by simp; omega)) rfl K jj) ?_
   refine c_val Z Z (fun _ _ _ _ jj => o_loadv Z Z K jj)<|C Z Z (fun jj => o_neS Z Z Z Z K jj)<|c_nil<|h_cond Z (fun c27 => ?_) (fun c27 => ?_)
   ·
    refine h_seq<|H<|S Z K<|o_nil<|h_ret<|ret1' Z (B_eq ?_)
    have hb : neB a b k = true := by simp only [neB]; simpa using c27
    rw [decide_eq_false]; intro hab; subst hab; rw [(neB_iff a a k).2 rfl] at hb; cases hb
   ·
    refine h_skip<|H<|G Z K<|o_add Z Z (by unfold in64; (try dsimp only); omega) K ?_
    refine S Z K<|o_nil ?_
    have hbad : neB a b k = false := by simp only [neB]; simpa using c27
    refine back rfl ⟨k + 1, hlt, fun j hj => (by rcases Nat.lt_succ_iff_lt_or_eq.1 hj with h1 | h1; exact hok j h1; subst h1; exact hbad)⟩ (by dsimp only; omega) (.refl _) (subT.cons Z (subT.cons Z (subT.cons Z subT.nil)))
  ·
   obtain rfl : k = (a).length := by omega
   refine h_seq<|h_seq<|H<|G Z K<|G Z K<|o_len Z K<|o_cmp Z Z Z K<|o_nil<|h_condf Z (by simp <;> omega) ?_
   refine h_exit<|h_seq<|H<|S Z K<|o_nil<|h_ret<|ret1' Z (B_eq ?_)
   rw [decide_eq_true]; exact ext_getD (d := dB) hll fun k hk2 => (neB_iff a b k).1 (hok k hk2)

theorem ints_spec (a b : List Int) (ha : a.length ≤ 1000000000) (hb : b.length ≤ 1000000000) (fa fb : Bool) : Fn1 Tryz.prog 34 [V (a.map encI) fa, V (b.map encI) fb] (B (decide (a = b))) := by
 refine fnE_intro (N := 26) Tryz.func34 rfl rfl rfl ?_
 intro X
 refine h_seq<|H<|S Z K<|o_nil<|h_seq<|h_seq<|H<|G Z K<|o_len Z K<|G Z K<|o_len Z K<|o_cmp Z Z Z K ?_
 refine o_nil<|h_cond Z (fun c30 => ?_) (fun c30 => ?_)
 ·
  refine h_seq<|H<|S Z K<|o_nil<|h_ret<|ret1' Z (B_eq ?_)
  rw [decide_eq_false]; intro hab; subst hab; have := c30; simp at this
 ·
  refine h_skip<|h_seq<|h_seq<|H<|S Z K<|o_nil<|h_block ?_
  have hll : a.length = b.length := by have := c30; simp at this; omega
  refine h_famS (ι := {k : Nat // k ≤ (a).length ∧ ∀ j, j < k → neI a b j = false}) (fun i => [(0, V (a.map encI) fa), (1, V (b.map encI) fb), (5, I (i.1 : Nat))]) (fun i => []) (fun i => (a).length - i.1) ⟨0, Nat.zero_le _, fun j hj => absurd hj (Nat.not_lt_zero j)⟩ (.refl _) (subT.cons Z (subT.cons Z (subT.cons Z subT.nil))) ?_
  rintro ⟨k, hk, hok⟩
  dsimp only
  by_cases hlt : k < (a).length
  ·
   refine h_seq<|h_seq<|H<|G Z K<|G Z K<|o_len Z K<|o_cmp Z Z Z K<|o_nil<|h_condt Z (by simp; omega) ?_
   refine h_skip<|h_seq<|h_block<|h_seq<|h_draw _ (List.nil_sublist _) [(0, .flo), (1, .flo), (2, .flo), (3, .val), (4, .flo), (5, .flo), (6, .flo), (7, .val), (8, .flo)] mixed (by kernel_rfl)<|C Z Z (fun jj => G Z K jj)<|C Z Z (fun jj => G Z K jj)<|C Z Z (fun jj => o_idxv Z Z (by omega) (eltIn (by simp; omega)) rfl K jj) ?_
   refine c_val Z Z (fun _ _ _ _ jj => o_loadv Z Z K jj)<|C Z Z (fun jj => G Z K jj)<|C Z Z (fun jj => G Z K jj)<|C Z Z (fun jj => o_idxv Z Z (by omega) (eltIn (by simp; omega)) rfl K jj) ?_
   refine c_val Z Z (fun _ _ _ _ jj => o_loadv Z Z K jj)<|C Z Z (fun jj => o_cmp Z Z Z K jj)<|c_nil<|h_cond Z (fun c33 => ?_) (fun c33 => ?_)
   ·
    refine h_seq<|H<|S Z K<|o_nil<|h_ret<|ret1' Z (B_eq ?_)
    have hb : neI a b k = true := by simp only [neI]; simpa using c33
    rw [decide_eq_false]; intro hab; subst hab; simp [neI] at hb
   ·
    refine h_skip<|H<|G Z K<|o_add Z Z (by unfold in64; (try dsimp only); omega) K ?_
    refine S Z K<|o_nil ?_
    have hbad : neI a b k = false := by simp only [neI]; simpa using c33
    refine back rfl ⟨k + 1, hlt, fun j hj => (by rcases Nat.lt_succ_iff_lt_or_eq.1 hj with h1 | h1; exact hok j h1; subst h1; exact hbad)⟩ (by dsimp only; omega) (.refl _) (subT.cons Z (subT.cons Z (subT.cons Z subT.nil)))
  ·
   obtain rfl : k = (a).length := by omega
   refine h_seq<|h_seq<|H<|G Z K<|G Z K<|o_len Z K<|o_cmp Z Z Z K<|o_nil<|h_condf Z (by simp <;> omega) ?_
   refine h_exit<|h_seq<|H<|S Z K<|o_nil<|h_ret<|ret1' Z (B_eq ?_)
   rw [decide_eq_true]; exact ext_getD (d := 0) hll fun k hk2 => by have := hok k hk2; simpa [neI] using this

end Go.Proofs.YtnoicbajhlpndaaGreat
/- The walks of the reference's Made (maps), Same (worlds), Owe. -/
namespace Go.Proofs.YtnoicbajhlpndaaGreat
open Go Go.RowKit Go.Shelf Hp
set_option maxRecDepth 10000
set_option maxHeartbeats 1000000
set_option linter.unusedVariables false
set_option linter.unusedSimpArgs false
attribute [local irreducible] WP WPs FnX IterX YdX RetP PanP Ch Back Join
abbrev T3 := Int × Int × Int
def enc3 (p : T3) : List PV := [pI p.1, pI p.2.1, pI p.2.2]
def d3 : T3 := (0, 0, 0)
theorem elt3 {l : List T3} {n : Int} (h : n.toNat < l.length) : (l.map enc3)[n.toNat]? = some (enc3 (l.getD n.toNat d3)) := by simp [h]
def ok3 (x : List T3) : Prop := ∀ k, k < x.length → in64 (x.getD k d3).1 ∧ in64 (x.getD k d3).2.1 ∧ in64 (x.getD k d3).2.2
def stepMade (m : List Blk) (p : T3) : List Blk :=
  if pickM p.2.2 5 < 4 then (giveR m (pieceR p.1 p.2.1).1 (pieceR p.1 p.2.1).2 (2 * pickM p.2.2 5)).1 else (takeR m (pieceR p.1 p.2.1).1 (pieceR p.1 p.2.1).2).1
def mAt (x : List T3) (k : Nat) : List Blk := (x.take k).foldl stepMade []
def made13 (x : List T3) : List Blk := mAt x 12
theorem mAt_succ {x : List T3} {k : Nat} (h : k < x.length) : mAt x (k + 1) = stepMade (mAt x k) (x.getD k d3) := by
  have e : x.take (k + 1) = x.take k ++ [x.getD k d3] := by rw [List.take_add_one, List.getElem?_eq_getElem h]; simp [h]
  simp only [mAt, e, List.foldl_append]; rfl
theorem stepMade_len (m : List Blk) (p : T3) : (stepMade m p).length ≤ 40 := by unfold stepMade; split; exact giveR_len _ _ _ _; exact takeR_len _ _ _
theorem mAt_len (x : List T3) : ∀ k, (mAt x k).length ≤ 40
  | 0 => by simp [mAt]
  | k + 1 => by
    by_cases h : k < x.length
    · rw [mAt_succ h]; exact stepMade_len _ _
    · have : mAt x (k + 1) = mAt x k := by simp only [mAt]; rw [List.take_of_length_le (by omega), List.take_of_length_le (by omega)]
      rw [this]; exact mAt_len x k
theorem mAt_all {x : List T3} {k : Nat} (h : x.length ≤ k) (hk : k ≤ 12) : mAt x k = made13 x := by
  simp only [made13, mAt]; rw [List.take_of_length_le h, List.take_of_length_le (by omega)]

theorem made13_spec (x : List T3) (hxl : x.length ≤ 1000000000) (hx : ok3 x) (f : Bool) : Fn1 Tryz.prog 115 [V (x.map enc3) f] (V ((made13 x).map encB) (made13 x).isEmpty) := by
 refine fnE_intro (N := 51) Tryz.func115 rfl rfl rfl ?_
 intro X
 refine h_seq<|H<|S Z K<|o_nil<|h_seq<|H<|S Z K<|o_nil<|h_seq<|h_seq<|H<|S Z K ?_
 refine o_nil<|h_block<|h_famS (ι := {k : Nat // k ≤ x.length ∧ k ≤ 12}) (fun i => [(0, V (x.map enc3) f), (3, V ((mAt x i.1).map encB) (mAt x i.1).isEmpty), (4, I (i.1 : Nat))]) (fun i => []) (fun i => x.length - i.1) ⟨0, Nat.zero_le _, Nat.zero_le _⟩ (.refl _) (subT.cons Z (subT.cons Z (subT.cons Z subT.nil))) ?_
 rintro ⟨k, hk, hk12⟩
 dsimp only
 by_cases hlt : k < x.length
 ·
  obtain ⟨h1, h2, h3⟩ := hx k hlt
  have hml := mAt_len x k
  refine h_seq<|h_seq<|H<|G Z K<|G Z K<|o_len Z K<|o_cmp Z Z Z K<|G Z K<|W Z Z (by simp; omega) K ?_
  refine G Z K<|W Z Z (by simp; omega) K ?_
  refine o_cmp Z Z Z K<|o_pickt Z (by simp; omega) rfl K ?_
  refine o_nil<|h_cond Z (fun c3 => ?_) (fun c3 => ?_)
  ·
   refine h_skip<|h_seq<|h_block<|h_seq<|h_draw _ (List.nil_sublist _) [(0, .flo), (1, .flo), (2, .flo), (3, .flo), (4, .val), (5, .flo), (6, .flo), (7, .flo), (8, .flo), (9, .val), (10, .flo), (11, .new), (12, .sto)] mixed (by kernel_rfl)<|C Z Z (fun jj => G Z K jj)<|C Z Z (fun jj => G Z K jj)<|C Z Z (fun jj => o_idxv Z Z (by omega) (elt3 (by simpa using hlt)) rfl K jj) ?_
   refine C Z Z (fun jj => o_idxav Z Z K K (by simp [enc3]) K jj) ?_
   refine c_val Z Z (fun _ _ _ _ jj => o_loadv Z Z K jj)<|C Z Z (fun jj => G Z K jj)<|C Z Z (fun jj => G Z K jj)<|C Z Z (fun jj => o_idxv Z Z (by omega) (elt3 (by simpa using hlt)) rfl K jj) ?_
   refine C Z Z (fun jj => o_idxav Z Z K K (by simp [enc3]) K jj) ?_
   refine c_val Z Z (fun _ _ _ _ jj => o_loadv Z Z K jj) ?_
   refine C Z Z (fun jj => o_call1 Z Z EntC.out K (piece_spec _ _ h1 h2) jj)<|c_new Z Z (fun _ _ _ _ jj => o_alloc K jj) fun x4 => ?_
   refine c_sto (List.nil_sublist _) rfl rfl (fun _ _ _ _ jj => o_store 0 Z Z Z Z Z Z jj)<|c_nil<|h_seq<|H<|G Z K<|G Z K<|o_idxv Z Z (by omega) (elt3 (by simpa using hlt)) rfl K ?_
   refine o_idxav Z Z K K (by simp [enc3]) K ?_
   refine o_loadv Z Z K ?_
   refine o_call1 Z Z EntC.out K (pick13_spec _ _ h3 K)<|S Z K<|o_nil<|h_seq<|H<|G Z K<|o_cmp Z Z Z K<|o_nil<|h_cond Z (fun c6 => ?_) (fun c6 => ?_)
   ·
    refine H<|G Z K<|O 0 Z Z Z Z K<|G Z K<|o_mul Z Z (by have := pickM_range (c := (x.getD ((k : Nat) : Int).toNat d3).2.2) (n := 5) (by omega); unfold in64; (try dsimp only); omega) K ?_
    refine o_call1 Z Z EntC.out K (give_spec (mAt x k) (by omega) _ _ _ _)<|G Z K<|o_extract Z Z K<|o_extract Z Z K<|S Z K<|o_nil<|H<|G Z K<|o_add Z Z (by unfold in64; (try dsimp only); omega) K ?_
    refine S Z K<|o_nil ?_
    have h12 := c3
    simp only [decide_eq_true_eq] at h12
    have h4 := c6
    simp only [decide_eq_true_eq, decide_eq_false_iff_not, Int.toNat_natCast] at h4
    have hs : mAt x (k + 1) = _ := (mAt_succ hlt).trans (by unfold stepMade; rw [if_pos h4])
    refine back rfl ⟨k + 1, hlt, by omega⟩ (by dsimp only; omega) (.cons _ (.refl _)) (subT.cons Z (subT.cons (by dsimp only; rw [hs]; rfl) (subT.cons Z subT.nil)))
   ·
    refine H<|G Z K<|O 0 Z Z Z Z K<|o_call1 Z Z EntC.out K (take_spec (mAt x k) (by omega) _ _ _)<|G Z K<|o_extract Z Z K<|o_extract Z Z K<|S Z K<|o_nil<|H<|G Z K<|o_add Z Z (by unfold in64; (try dsimp only); omega) K ?_
    refine S Z K<|o_nil ?_
    have h12 := c3
    simp only [decide_eq_true_eq] at h12
    have h4 := c6
    simp only [decide_eq_true_eq, decide_eq_false_iff_not, Int.toNat_natCast] at h4
    have hs : mAt x (k + 1) = _ := (mAt_succ hlt).trans (by unfold stepMade; rw [if_neg h4])
    refine back rfl ⟨k + 1, hlt, by omega⟩ (by dsimp only; omega) (.cons _ (.refl _)) (subT.cons Z (subT.cons (by dsimp only; rw [hs]; rfl) (subT.cons Z subT.nil)))
  ·
   refine h_exit<|h_seq<|H<|G Z K<|S Z K<|o_nil<|h_ret ?_
   have h12 := c3
   simp only [decide_eq_false_iff_not] at h12
   have hm : mAt x k = made13 x := by rw [show k = 12 from by omega]; rfl
   exact ret1' Z (by rw [hm])
 ·
  refine h_seq<|h_seq<|H<|G Z K<|G Z K<|o_len Z K<|o_cmp Z Z Z K<|G Z K<|U Z Z (by simp <;> omega) K ?_
  refine U Z Z (by simp <;> omega) K ?_
  refine o_pickf Z (by simp <;> omega) rfl K ?_
  refine o_nil<|h_condf Z Z<|h_exit<|h_seq<|H<|G Z K<|S Z K<|o_nil<|h_ret ?_
  have hm : mAt x k = made13 x := mAt_all (by omega) hk12
  exact ret1' Z (by rw [hm])

def eqW (a b : Wd) : Bool := decide (a.alive = b.alive) && decide (a.ever = b.ever) && decide (a.blocks = b.blocks) && decide (a.bal = b.bal) && decide (a.lev = b.lev)
def smallW (w : Wd) : Prop := w.blocks.length ≤ 1000000000 ∧ w.bal.length ≤ 1000000000 ∧ w.lev.length ≤ 1000000000

theorem same42_spec (a b : Wd) (ha : smallW a) (hb : smallW b) (a1 a2 a3 b1 b2 b3 : Bool) : Fn1 Tryz.prog 20 [encW a a1 a2 a3, encW b b1 b2 b3] (B (eqW a b)) := by
 refine fnE_intro (N := 38) Tryz.func20 rfl rfl rfl ?_
 intro X
 refine h_seq<|H<|o_box Z Z K fun x8 => o_box Z Z K fun x9 => S Z K<|o_nil<|h_seq<|H<|F Z Z K K<|O 1 Z Z Z Z K<|F Z Z K K<|O 0 Z Z Z Z K ?_
 refine o_cmp Z Z Z K<|G Z K<|o_guard Z Z K (fun g11 => ?_) (fun g11 => ?_)
 ·
  have g11 : _ = true := g11
  refine F Z Z K K<|W Z Z g11 K<|O 1 Z Z Z Z K<|W Z Z g11 K<|F Z Z K K<|W Z Z g11 K<|O 0 Z Z Z Z K<|W Z Z g11 K<|o_cmp Z Z Z K<|o_pickt Z g11 rfl K<|G Z K<|o_guard Z Z K (fun g13 => ?_) (fun g13 => ?_)
  ·
   have g13 : _ = true := g13
   refine F Z Z K K<|W Z Z g13 K<|O 1 Z Z Z Z K<|W Z Z g13 K<|F Z Z K K<|W Z Z g13 K<|O 0 Z Z Z Z K<|W Z Z g13 K<|o_call1 Z Z EntC.out K (same13_spec a.blocks b.blocks ha.1 hb.1 _ _)<|o_pickt Z g13 rfl K<|G Z K<|o_guard Z Z K (fun g15 => ?_) (fun g15 => ?_)
   ·
    have g15 : _ = true := g15
    refine F Z Z K K<|W Z Z g15 K<|O 1 Z Z Z Z K<|W Z Z g15 K<|F Z Z K K<|W Z Z g15 K<|O 0 Z Z Z Z K<|W Z Z g15 K<|o_call1 Z Z EntC.out K (ints_spec a.bal b.bal ha.2.1 hb.2.1 _ _)<|o_pickt Z g15 rfl K<|G Z K<|o_guard Z Z K (fun g17 => ?_) (fun g17 => ?_)
    ·
     have g17 : _ = true := g17
     refine F Z Z K K<|W Z Z g17 K<|O 1 Z Z Z Z K<|W Z Z g17 K<|F Z Z K K<|W Z Z g17 K<|O 0 Z Z Z Z K<|W Z Z g17 K<|o_call1 Z Z EntC.out K (ints_spec a.lev b.lev ha.2.2 hb.2.2 _ _)<|o_pickt Z g17 rfl K<|S Z K<|o_nil ?_
     exact h_ret<|ret1' Z (B_eq (by unfold eqW; simp_all))
    ·
     have g17 : _ = false := g17
     exact U Z Z g17 K<|U Z Z g17 K<|U Z Z g17 K<|U Z Z g17 K<|o_pickf Z g17 rfl K<|S Z K<|o_nil<|h_ret<|ret1' Z (B_eq (by unfold eqW; simp_all))
   ·
    have g15 : _ = false := g15
    refine U Z Z g15 K<|U Z Z g15 K<|U Z Z g15 K<|U Z Z g15 K<|o_pickf Z g15 rfl K<|G Z K<|U Z Z Z K<|U Z Z Z K<|U Z Z Z K<|U Z Z Z K<|U Z Z Z K<|o_pickf Z Z Z K ?_
    exact S Z K<|o_nil<|h_ret<|ret1' Z (B_eq (by unfold eqW; simp_all))
  ·
   have g13 : _ = false := g13
   refine U Z Z g13 K<|U Z Z g13 K<|U Z Z g13 K<|U Z Z g13 K<|o_pickf Z g13 rfl K<|G Z K<|U Z Z Z K<|U Z Z Z K<|U Z Z Z K<|U Z Z Z K<|U Z Z Z K<|o_pickf Z Z Z K ?_
   exact G Z K<|U Z Z Z K<|U Z Z Z K<|U Z Z Z K<|U Z Z Z K<|U Z Z Z K<|o_pickf Z Z Z K<|S Z K<|o_nil<|h_ret<|ret1' Z (B_eq (by unfold eqW; simp_all))
 ·
  have g11 : _ = false := g11
  refine U Z Z g11 K<|U Z Z g11 K<|U Z Z g11 K<|U Z Z g11 K<|o_pickf Z g11 rfl K<|G Z K<|U Z Z Z K<|U Z Z Z K<|U Z Z Z K<|U Z Z Z K<|U Z Z Z K<|o_pickf Z Z Z K ?_
  refine G Z K<|U Z Z Z K<|U Z Z Z K<|U Z Z Z K<|U Z Z Z K<|U Z Z Z K<|o_pickf Z Z Z K<|G Z K<|U Z Z Z K<|U Z Z Z K<|U Z Z Z K<|U Z Z Z K ?_
  exact U Z Z Z K<|o_pickf Z Z Z K<|S Z K<|o_nil<|h_ret<|ret1' Z (B_eq (by unfold eqW; simp_all))

def goodD (d : Dbt) : Prop := (0 ≤ d.fr ∧ d.fr ≤ 7) ∧ (0 ≤ d.to ∧ d.to ≤ 7) ∧ 1 ≤ d.m ∧ d.m ≤ 1000
def linkD (al : Int) (d : Dbt) : Prop := d.fr ≠ d.to ∧ bitM al d.fr = true ∧ bitM al d.to = true
structure OwI (x : List T3) (al : Int) where
  k : Nat
  ds : List Dbt
  hk : k ≤ x.length
  h12 : k ≤ 12
  hl : ds.length ≤ k
  hg : ∀ d ∈ ds, goodD d
  hlk : ∀ d ∈ ds, linkD al d
  hd : ds = []
structure OwJ (x : List T3) (al : Int) where
  k : Nat
  ob : Nat
  c : Nat
  ds : List Dbt
  es : List (List PV)
  len : Nat
  hk : k ≤ x.length
  h12 : k ≤ 12
  hl : ds.length ≤ k
  hg : ∀ d ∈ ds, goodD d
  hlk : ∀ d ∈ ds, linkD al d
  he : es = ds.map encD
  hn : len = ds.length
  hne : ds ≠ []
  hc : len ≤ c
theorem pick8 {c : Int} : 0 ≤ pickM c 8 ∧ pickM c 8 ≤ 7 := by have := pickM_range (c := c) (n := 8) (by omega); omega
theorem pick1000 {c : Int} : 0 ≤ pickM c 1000 ∧ pickM c 1000 ≤ 999 := by have := pickM_range (c := c) (n := 1000) (by omega); omega
theorem link_app {al : Int} {l : List Dbt} {d : Dbt} (h : ∀ x ∈ l, linkD al x) (hd : linkD al d) : ∀ x ∈ l ++ [d], linkD al x := fun x hx => by
  rcases List.mem_append.1 hx with h1 | h1
  · exact h x h1
  · simp at h1; subst h1; exact hd
theorem good_app {l : List Dbt} {d : Dbt} (h : ∀ x ∈ l, goodD x) (hd : goodD d) : ∀ x ∈ l ++ [d], goodD x := fun x hx => by
  rcases List.mem_append.1 hx with h1 | h1
  · exact h x h1
  · simp at h1; subst h1; exact hd

theorem owe_spec (al : Int) (x : List T3) (hxl : x.length ≤ 1000000000) (hx : ok3 x) (f : Bool) : Fc Tryz.prog 55 [I al, V (x.map enc3) f] [] (fun r h' => (∃ (ds : List Dbt) (f' : Bool), r = V (ds.map encD) f' ∧ ds.length ≤ 12 ∧ (∀ d ∈ ds, goodD d) ∧ ∀ d ∈ ds, linkD al d) ∧ h' = []) := by
 refine fnE_intro (N := 60) Tryz.func55 rfl rfl rfl ?_
 intro X
 refine h_seq<|H<|S Z K<|o_nil<|h_seq<|H<|S Z K<|o_nil<|h_seq<|h_seq<|H<|S Z K ?_
 refine o_nil<|h_block<|h_famS (ι := (OwI x al) ⊕ (OwJ x al)) (fun i => match i with | .inl i => [(0, I al), (1, V (x.map enc3) f), (5, V [] true), (6, I (i.k : Nat))] | .inr i => [(0, I al), (1, V (x.map enc3) f), (5, .os i.ob 3 0 i.len i.c), (6, I (i.k : Nat))]) (fun i => match i with | .inl i => [] | .inr i => (i.ob, .arr 114 3 i.es i.c) :: []) (fun i => match i with | .inl i => x.length - i.k | .inr i => x.length - i.k) (.inl ⟨0, [], Nat.zero_le _, Nat.zero_le _, Nat.zero_le _, by simp, by simp, rfl⟩) (.refl _) (subT.cons Z (subT.cons Z (subT.cons Z (subT.cons Z subT.nil)))) ?_
 rintro (⟨k, ds, hk, h12, hl, hg, hlk, hd⟩ | ⟨k, ob, c, ds, es, len, hk, h12, hl, hg, hlk, he, hn, hne, hc⟩)
 ·
  dsimp only
  by_cases hlt : k < x.length
  ·
   obtain ⟨h1, h2, h3⟩ := hx k hlt
   refine h_seq<|h_seq<|H<|G Z K<|G Z K<|o_len Z K<|o_cmp Z Z Z K<|G Z K<|W Z Z (by simp; omega) K ?_
   refine G Z K<|W Z Z (by simp; omega) K ?_
   refine o_cmp Z Z Z K<|o_pickt Z (by simp; omega) rfl K ?_
   refine o_nil<|h_cond Z (fun c21 => ?_) (fun c21 => ?_)
   ·
    refine h_skip<|h_seq<|h_block<|h_seq<|h_draw _ (List.nil_sublist _) [(0, .flo), (1, .flo), (2, .flo), (3, .flo), (4, .val), (5, .flo), (6, .flo), (7, .flo), (8, .flo), (9, .flo), (10, .val), (11, .flo), (12, .flo), (13, .flo), (14, .flo), (15, .flo), (16, .val), (17, .flo), (18, .flo), (19, .flo), (20, .new), (21, .sto)] mixed (by kernel_rfl)<|C Z Z (fun jj => G Z K jj)<|C Z Z (fun jj => G Z K jj)<|C Z Z (fun jj => o_idxv Z Z (by omega) (elt3 (by simpa using hlt)) rfl K jj) ?_
    refine C Z Z (fun jj => o_idxav Z Z K K (by simp [enc3]) K jj) ?_
    refine c_val Z Z (fun _ _ _ _ jj => o_loadv Z Z K jj) ?_
    refine C Z Z (fun jj => o_call1 Z Z EntC.out K (pick42_spec _ _ (by first | exact h1 | exact h2 | exact h3) K) jj) ?_
    refine C Z Z (fun jj => G Z K jj)<|C Z Z (fun jj => G Z K jj)<|C Z Z (fun jj => o_idxv Z Z (by omega) (elt3 (by simpa using hlt)) rfl K jj) ?_
    refine C Z Z (fun jj => o_idxav Z Z K K (by simp [enc3]) K jj) ?_
    refine c_val Z Z (fun _ _ _ _ jj => o_loadv Z Z K jj) ?_
    refine C Z Z (fun jj => o_call1 Z Z EntC.out K (pick42_spec _ _ (by first | exact h1 | exact h2 | exact h3) K) jj) ?_
    refine C Z Z (fun jj => G Z K jj)<|C Z Z (fun jj => G Z K jj)<|C Z Z (fun jj => o_idxv Z Z (by omega) (elt3 (by simpa using hlt)) rfl K jj) ?_
    refine C Z Z (fun jj => o_idxav Z Z K K (by simp [enc3]) K jj) ?_
    refine c_val Z Z (fun _ _ _ _ jj => o_loadv Z Z K jj) ?_
    refine C Z Z (fun jj => o_call1 Z Z EntC.out K (pick42_spec _ _ (by first | exact h1 | exact h2 | exact h3) K) jj) ?_
    refine C Z Z (fun jj => o_add Z Z (by have := pick1000 (c := (x.getD ((k : Nat) : Int).toNat d3).2.2); unfold in64; (try dsimp only); omega) K jj) ?_
    refine C Z Z (fun jj => o_build Z Z K jj)<|c_new Z Z (fun _ _ _ _ jj => o_alloc K jj) fun x22 => ?_
    refine c_sto (List.nil_sublist _) rfl rfl (fun _ _ _ _ jj => o_store 0 Z Z Z Z Z Z jj)<|c_nil<|h_seq<|H<|F Z Z K K<|O 0 Z Z Z Z K<|F Z Z K K<|O 0 Z Z Z Z K<|o_cmp Z Z Z K<|G Z K<|o_guard Z Z K (fun g24 => ?_) (fun g24 => ?_)
    ·
     have g24 : _ = true := g24
     refine G Z K<|W Z Z g24 K<|F Z Z K K<|W Z Z g24 K<|O 0 Z Z Z Z K<|W Z Z g24 K<|o_call1 Z Z EntC.out K (bit42_spec _ _ pick8.1 (by have := (pick8 (c := (x.getD ((k : Nat) : Int).toNat d3).1)).2; have := (pick8 (c := (x.getD ((k : Nat) : Int).toNat d3).2.1)).2; omega)) ?_
     refine o_pickt Z g24 rfl K<|G Z K<|o_guard Z Z K (fun g26 => ?_) (fun g26 => ?_)
     ·
      have g26 : _ = true := g26
      refine G Z K<|W Z Z g26 K<|F Z Z K K<|W Z Z g26 K<|O 0 Z Z Z Z K<|W Z Z g26 K<|o_call1 Z Z EntC.out K (bit42_spec _ _ pick8.1 (by have := (pick8 (c := (x.getD ((k : Nat) : Int).toNat d3).1)).2; have := (pick8 (c := (x.getD ((k : Nat) : Int).toNat d3).2.1)).2; omega)) ?_
      refine o_pickt Z g26 rfl K<|o_nil<|h_cond Z (fun c28 => ?_) (fun c28 => ?_)
      ·
       refine H<|G Z K<|O 0 Z Z Z Z K<|o_buildSlicep Z (by rfl) (by rfl) (by rfl) (by rfl) K ?_
       refine o_appendv Z Z (Src.v _ _) (okB_one rfl) (by simp [chunk]) (by rw [chunk_length]; omega) (by simp [chunk_length]; try omega) K fun x29 c30 hc31 => ?_
       refine S Z K<|o_nil<|H<|G Z K<|o_add Z Z (by unfold in64; (try dsimp only); omega) K ?_
       refine S Z K<|o_nil ?_
       have h12' := c21
       simp only [decide_eq_true_eq] at h12'
       have hgd : goodD ⟨pickM (x.getD ((k : Nat) : Int).toNat d3).1 8, pickM (x.getD ((k : Nat) : Int).toNat d3).2.1 8, 1 + pickM (x.getD ((k : Nat) : Int).toNat d3).2.2 1000⟩ := ⟨pick8, pick8, (by have := pick1000 (c := (x.getD ((k : Nat) : Int).toNat d3).2.2); dsimp only; omega)⟩
       have hlkd : linkD al ⟨pickM (x.getD ((k : Nat) : Int).toNat d3).1 8, pickM (x.getD ((k : Nat) : Int).toNat d3).2.1 8, 1 + pickM (x.getD ((k : Nat) : Int).toNat d3).2.2 1000⟩ := by simp only [linkD]; simp_all
       refine back rfl (.inr ⟨k + 1, x29, c30, ds ++ [⟨pickM (x.getD ((k : Nat) : Int).toNat d3).1 8, pickM (x.getD ((k : Nat) : Int).toNat d3).2.1 8, 1 + pickM (x.getD ((k : Nat) : Int).toNat d3).2.2 1000⟩], _, _, hlt, by omega, (by simp; omega), good_app hg hgd, link_app hlk hlkd, (by rw [hd]; simp [encD, chunk]), (by simp [chunk_length, hd]), (by simp), (by simpa [chunk_length] using hc31)⟩) (by dsimp only; omega) (.cons_cons _ (.cons _ (.refl _))) (subT.cons Z (subT.cons Z (subT.cons Z (subT.cons Z subT.nil))))
      ·
       refine h_skip<|H<|G Z K<|o_add Z Z (by unfold in64; (try dsimp only); omega) K ?_
       refine S Z K<|o_nil ?_
       have h12' := c21
       simp only [decide_eq_true_eq] at h12'
       refine back rfl (.inl ⟨k + 1, ds, hlt, by omega, by omega, hg, hlk, hd⟩) (by dsimp only; omega) (.cons _ (.refl _)) (subT.cons Z (subT.cons Z (subT.cons Z (subT.cons Z subT.nil))))
     ·
      have g26 : _ = false := g26
      refine U Z Z g26 K<|U Z Z g26 K<|U Z Z g26 K<|o_pickf Z g26 rfl K<|o_nil<|h_condf Z Z<|h_skip<|H<|G Z K<|o_add Z Z (by unfold in64; (try dsimp only); omega) K ?_
      refine S Z K<|o_nil ?_
      have h12' := c21
      simp only [decide_eq_true_eq] at h12'
      refine back rfl (.inl ⟨k + 1, ds, hlt, by omega, by omega, hg, hlk, hd⟩) (by dsimp only; omega) (.cons _ (.refl _)) (subT.cons Z (subT.cons Z (subT.cons Z (subT.cons Z subT.nil))))
    ·
     have g24 : _ = false := g24
     refine U Z Z g24 K<|U Z Z g24 K<|U Z Z g24 K<|o_pickf Z g24 rfl K<|G Z K<|U Z Z Z K<|U Z Z Z K<|U Z Z Z K<|U Z Z Z K<|o_pickf Z Z Z K<|o_nil<|h_condf Z Z ?_
     refine h_skip<|H<|G Z K<|o_add Z Z (by unfold in64; (try dsimp only); omega) K ?_
     refine S Z K<|o_nil ?_
     have h12' := c21
     simp only [decide_eq_true_eq] at h12'
     refine back rfl (.inl ⟨k + 1, ds, hlt, by omega, by omega, hg, hlk, hd⟩) (by dsimp only; omega) (.cons _ (.refl _)) (subT.cons Z (subT.cons Z (subT.cons Z (subT.cons Z subT.nil))))
   ·
    exact h_exit<|h_seq<|H<|G Z K<|S Z K<|o_nil<|h_ret<|ret1 rfl ⟨_, rfl, ⟨[], true, rfl, by simp, by simp, by simp⟩, rfl⟩
  ·
   refine h_seq<|h_seq<|H<|G Z K<|G Z K<|o_len Z K<|o_cmp Z Z Z K<|G Z K<|U Z Z (by simp <;> omega) K ?_
   refine U Z Z (by simp <;> omega) K ?_
   refine o_pickf Z (by simp <;> omega) rfl K ?_
   exact o_nil<|h_condf Z Z<|h_exit<|h_seq<|H<|G Z K<|S Z K<|o_nil<|h_ret<|ret1 rfl ⟨_, rfl, ⟨[], true, rfl, by simp, by simp, by simp⟩, rfl⟩
 ·
  dsimp only
  subst he; subst hn
  by_cases hlt : k < x.length
  ·
   obtain ⟨h1, h2, h3⟩ := hx k hlt
   refine h_seq<|h_seq<|H<|G Z K<|G Z K<|o_len Z K<|o_cmp Z Z Z K<|G Z K<|W Z Z (by simp; omega) K ?_
   refine G Z K<|W Z Z (by simp; omega) K ?_
   refine o_cmp Z Z Z K<|o_pickt Z (by simp; omega) rfl K ?_
   refine o_nil<|h_cond Z (fun c35 => ?_) (fun c35 => ?_)
   ·
    refine h_skip<|h_seq<|h_block<|h_seq<|h_draw _ (List.nil_sublist _) [(0, .flo), (1, .flo), (2, .flo), (3, .flo), (4, .val), (5, .flo), (6, .flo), (7, .flo), (8, .flo), (9, .flo), (10, .val), (11, .flo), (12, .flo), (13, .flo), (14, .flo), (15, .flo), (16, .val), (17, .flo), (18, .flo), (19, .flo), (20, .new), (21, .sto)] mixed (by kernel_rfl)<|C Z Z (fun jj => G Z K jj)<|C Z Z (fun jj => G Z K jj)<|C Z Z (fun jj => o_idxv Z Z (by omega) (elt3 (by simpa using hlt)) rfl K jj) ?_
    refine C Z Z (fun jj => o_idxav Z Z K K (by simp [enc3]) K jj) ?_
    refine c_val Z Z (fun _ _ _ _ jj => o_loadv Z Z K jj) ?_
    refine C Z Z (fun jj => o_call1 Z Z EntC.out K (pick42_spec _ _ (by first | exact h1 | exact h2 | exact h3) K) jj) ?_
    refine C Z Z (fun jj => G Z K jj)<|C Z Z (fun jj => G Z K jj)<|C Z Z (fun jj => o_idxv Z Z (by omega) (elt3 (by simpa using hlt)) rfl K jj) ?_
    refine C Z Z (fun jj => o_idxav Z Z K K (by simp [enc3]) K jj) ?_
    refine c_val Z Z (fun _ _ _ _ jj => o_loadv Z Z K jj) ?_
    refine C Z Z (fun jj => o_call1 Z Z EntC.out K (pick42_spec _ _ (by first | exact h1 | exact h2 | exact h3) K) jj) ?_
    refine C Z Z (fun jj => G Z K jj)<|C Z Z (fun jj => G Z K jj)<|C Z Z (fun jj => o_idxv Z Z (by omega) (elt3 (by simpa using hlt)) rfl K jj) ?_
    refine C Z Z (fun jj => o_idxav Z Z K K (by simp [enc3]) K jj) ?_
    refine c_val Z Z (fun _ _ _ _ jj => o_loadv Z Z K jj) ?_
    refine C Z Z (fun jj => o_call1 Z Z EntC.out K (pick42_spec _ _ (by first | exact h1 | exact h2 | exact h3) K) jj) ?_
    refine C Z Z (fun jj => o_add Z Z (by have := pick1000 (c := (x.getD ((k : Nat) : Int).toNat d3).2.2); unfold in64; (try dsimp only); omega) K jj) ?_
    refine C Z Z (fun jj => o_build Z Z K jj)<|c_new Z Z (fun _ _ _ _ jj => o_alloc K jj) fun x36 => ?_
    refine c_sto (List.nil_sublist _) rfl rfl (fun _ _ _ _ jj => o_store 0 Z Z Z Z Z Z jj)<|c_nil<|h_seq<|H<|F Z Z K K<|O 0 Z Z Z Z K<|F Z Z K K<|O 0 Z Z Z Z K<|o_cmp Z Z Z K<|G Z K<|o_guard Z Z K (fun g38 => ?_) (fun g38 => ?_)
    ·
     have g38 : _ = true := g38
     refine G Z K<|W Z Z g38 K<|F Z Z K K<|W Z Z g38 K<|O 0 Z Z Z Z K<|W Z Z g38 K<|o_call1 Z Z EntC.out K (bit42_spec _ _ pick8.1 (by have := (pick8 (c := (x.getD ((k : Nat) : Int).toNat d3).1)).2; have := (pick8 (c := (x.getD ((k : Nat) : Int).toNat d3).2.1)).2; omega)) ?_
     refine o_pickt Z g38 rfl K<|G Z K<|o_guard Z Z K (fun g40 => ?_) (fun g40 => ?_)
     ·
      have g40 : _ = true := g40
      refine G Z K<|W Z Z g40 K<|F Z Z K K<|W Z Z g40 K<|O 0 Z Z Z Z K<|W Z Z g40 K<|o_call1 Z Z EntC.out K (bit42_spec _ _ pick8.1 (by have := (pick8 (c := (x.getD ((k : Nat) : Int).toNat d3).1)).2; have := (pick8 (c := (x.getD ((k : Nat) : Int).toNat d3).2.1)).2; omega)) ?_
      refine o_pickt Z g40 rfl K<|o_nil<|h_cond Z (fun c42 => ?_) (fun c42 => ?_)
      ·
       refine H<|G Z K<|O 0 Z Z Z Z K<|o_buildSlicep Z (by rfl) (by rfl) (by rfl) (by rfl) K ?_
       refine o_append 1 Z Z Z (Src.v _ _) (okB_one rfl) (by simp) (by simp [chunk_length]; try omega) K fun x43 c44 hc45 => ?_
       refine S Z K<|o_nil<|H<|G Z K<|o_add Z Z (by unfold in64; (try dsimp only); omega) K ?_
       refine S Z K<|o_nil ?_
       have h12' := c35
       simp only [decide_eq_true_eq] at h12'
       have hgd : goodD ⟨pickM (x.getD ((k : Nat) : Int).toNat d3).1 8, pickM (x.getD ((k : Nat) : Int).toNat d3).2.1 8, 1 + pickM (x.getD ((k : Nat) : Int).toNat d3).2.2 1000⟩ := ⟨pick8, pick8, (by have := pick1000 (c := (x.getD ((k : Nat) : Int).toNat d3).2.2); dsimp only; omega)⟩
       have hlkd : linkD al ⟨pickM (x.getD ((k : Nat) : Int).toNat d3).1 8, pickM (x.getD ((k : Nat) : Int).toNat d3).2.1 8, 1 + pickM (x.getD ((k : Nat) : Int).toNat d3).2.2 1000⟩ := by simp only [linkD]; simp_all
       refine back rfl (.inr ⟨k + 1, x43, c44, ds ++ [⟨pickM (x.getD ((k : Nat) : Int).toNat d3).1 8, pickM (x.getD ((k : Nat) : Int).toNat d3).2.1 8, 1 + pickM (x.getD ((k : Nat) : Int).toNat d3).2.2 1000⟩], _, _, hlt, by omega, (by simp; omega), good_app hg hgd, link_app hlk hlkd, (by simp [encD, chunk]), (by simp [chunk_length]), (by simp), (by simpa [chunk_length] using hc45)⟩) (by dsimp only; omega) (.cons _ (.cons_cons _ (.refl _))) (subT.cons Z (subT.cons Z (subT.cons Z (subT.cons Z subT.nil))))
      ·
       refine h_skip<|H<|G Z K<|o_add Z Z (by unfold in64; (try dsimp only); omega) K ?_
       refine S Z K<|o_nil ?_
       have h12' := c35
       simp only [decide_eq_true_eq] at h12'
       refine back rfl (.inr ⟨k + 1, ob, c, ds, _, _, hlt, by omega, by omega, hg, hlk, rfl, rfl, hne, hc⟩) (by dsimp only; omega) (.cons _ (.cons_cons _ (.refl _))) (subT.cons Z (subT.cons Z (subT.cons Z (subT.cons Z subT.nil))))
     ·
      have g40 : _ = false := g40
      refine U Z Z g40 K<|U Z Z g40 K<|U Z Z g40 K<|o_pickf Z g40 rfl K<|o_nil<|h_condf Z Z<|h_skip<|H<|G Z K<|o_add Z Z (by unfold in64; (try dsimp only); omega) K ?_
      refine S Z K<|o_nil ?_
      have h12' := c35
      simp only [decide_eq_true_eq] at h12'
      refine back rfl (.inr ⟨k + 1, ob, c, ds, _, _, hlt, by omega, by omega, hg, hlk, rfl, rfl, hne, hc⟩) (by dsimp only; omega) (.cons _ (.cons_cons _ (.refl _))) (subT.cons Z (subT.cons Z (subT.cons Z (subT.cons Z subT.nil))))
    ·
     have g38 : _ = false := g38
     refine U Z Z g38 K<|U Z Z g38 K<|U Z Z g38 K<|o_pickf Z g38 rfl K<|G Z K<|U Z Z Z K<|U Z Z Z K<|U Z Z Z K<|U Z Z Z K<|o_pickf Z Z Z K<|o_nil<|h_condf Z Z ?_
     refine h_skip<|H<|G Z K<|o_add Z Z (by unfold in64; (try dsimp only); omega) K ?_
     refine S Z K<|o_nil ?_
     have h12' := c35
     simp only [decide_eq_true_eq] at h12'
     refine back rfl (.inr ⟨k + 1, ob, c, ds, _, _, hlt, by omega, by omega, hg, hlk, rfl, rfl, hne, hc⟩) (by dsimp only; omega) (.cons _ (.cons_cons _ (.refl _))) (subT.cons Z (subT.cons Z (subT.cons Z (subT.cons Z subT.nil))))
   ·
    exact h_exit<|h_seq<|H<|G Z K<|S Z K<|o_nil<|h_ret<|retF (.cons (resT rfl) .nil) (frz_os List.mem_cons_self (by simp) hc) ⟨_, rfl, ⟨ds, false, rfl, by omega, hg, hlk⟩, rfl⟩
  ·
   refine h_seq<|h_seq<|H<|G Z K<|G Z K<|o_len Z K<|o_cmp Z Z Z K<|G Z K<|U Z Z (by simp <;> omega) K ?_
   refine U Z Z (by simp <;> omega) K ?_
   refine o_pickf Z (by simp <;> omega) rfl K ?_
   exact o_nil<|h_condf Z Z<|h_exit<|h_seq<|H<|G Z K<|S Z K<|o_nil<|h_ret<|retF (.cons (resT rfl) .nil) (frz_os List.mem_cons_self (by simp) hc) ⟨_, rfl, ⟨ds, false, rfl, by omega, hg, hlk⟩, rfl⟩

end Go.Proofs.YtnoicbajhlpndaaGreat
/- The walk of the reference's Made (worlds). -/
namespace Go.Proofs.YtnoicbajhlpndaaGreat
open Go Go.RowKit Go.Shelf Hp
set_option maxRecDepth 10000
set_option maxHeartbeats 1000000
set_option linter.unusedVariables false
set_option linter.unusedSimpArgs false
attribute [local irreducible] WP WPs FnX IterX YdX RetP PanP Ch Back Join
theorem bit_some : ∀ n : Fin 256, 1 ≤ n.val → ∃ j : Fin 8, bitM (n.val : Int) (j.val : Int) = true := by decide
theorem bit_first {al : Int} (h1 : 1 ≤ al) (h2 : al ≤ 255) : ∃ j : Nat, j < 8 ∧ bitM al j = true := by
  obtain ⟨n, rfl⟩ : ∃ n : Nat, al = n := ⟨al.toNat, by omega⟩
  obtain ⟨j, hj⟩ := bit_some ⟨n, by omega⟩ (by simp; omega)
  exact ⟨j.val, j.isLt, hj⟩
/-- The first carrier of a set. -/
def firstB (al : Int) : Nat := match fst? (fun j => bitM al j) 8 0 with
  | some k => k
  | none => 0
theorem firstB_eq {al : Int} {k : Nat} (hk : k < 8) (h : bitM al k = true) (hb : ∀ j, j < k → bitM al j = false) : firstB al = k := by
  unfold firstB
  rw [fst_some 8 0 k (Nat.zero_le _) (by omega) h (fun j _ hj => hb j hj)]
def swAt (al : Int) (m0 : List Blk) : Nat → List Blk
  | 0 => m0
  | c + 1 => if bitM al c then swAt al m0 c else (swapR (swAt al m0 c) c (firstB al)).1
theorem swAt_len (al : Int) (m0 : List Blk) (h : m0.length ≤ 40) : ∀ c, (swAt al m0 c).length ≤ 40
  | 0 => h
  | c + 1 => by simp only [swAt]; split; exact swAt_len al m0 h c; exact swapR_len _ _ _
def levB (al lv : Int) (c : Nat) : Int := if bitM al c then 3 + (pickM lv 256 / 2 ^ c).tmod 2 else 0
def levTo42 (al lv : Int) (c : Nat) : List Int := (List.range c).map (levB al lv)
def balStep (al : Int) (b : List Int) (d : Dbt) : List Int :=
  if (inR d.fr 0 7 && inR d.to 0 7 && bitM al d.fr && bitM al d.to) = true then (b.set d.fr.toNat (b.getD d.fr.toNat 0 - d.m)).set d.to.toNat ((b.set d.fr.toNat (b.getD d.fr.toNat 0 - d.m)).getD d.to.toNat 0 + d.m) else b
def balTo42 (al : Int) (ds : List Dbt) (k : Nat) : List Int := (ds.take k).foldl (balStep al) (List.replicate 8 0)
/-- The world that integers determine. -/
def madeW (a0 a1 : Int) (x : List T3) (a2 : Int) (ds : List Dbt) : Wd :=
  { alive := 1 + pickM a0 255, ever := bits64 .or (1 + pickM a0 255) (pickM a1 256), blocks := swAt (1 + pickM a0 255) (made13 (x.take 8)) 8,
    bal := balTo42 (1 + pickM a0 255) ds ds.length, lev := levTo42 (1 + pickM a0 255) a2 8 }
theorem bal_len (al : Int) (ds : List Dbt) : ∀ k, (balTo42 al ds k).length = 8 := by
  intro k
  unfold balTo42
  generalize ds.take k = l
  have : ∀ (l : List Dbt) (b : List Int), b.length = 8 → (l.foldl (balStep al) b).length = 8 := by
    intro l
    induction l with
    | nil => intro b h; exact h
    | cons d l ih => intro b h; exact ih _ (by unfold balStep; split <;> simp [h])
  exact this l _ (by simp)
theorem bal_succ {al : Int} {ds : List Dbt} {k : Nat} (h : k < ds.length) : balTo42 al ds (k + 1) = balStep al (balTo42 al ds k) (ds.getD k dD) := by
  have e : ds.take (k + 1) = ds.take k ++ [ds.getD k dD] := by rw [List.take_add_one, List.getElem?_eq_getElem h]; simp [h]
  simp only [balTo42, e, List.foldl_append]; rfl
theorem set_bd {l : List Int} {b d : Int} {i j : Nat} {v : Int} (h : ∀ k, -b ≤ l.getD k 0 ∧ l.getD k 0 ≤ b) (hd : b ≤ d) (hv : -d ≤ v ∧ v ≤ d) : -d ≤ (l.set i v).getD j 0 ∧ (l.set i v).getD j 0 ≤ d := getD_set_bound h hd hv
theorem bal_bd {al : Int} {ds : List Dbt} (hg : ∀ d ∈ ds, goodD d) : ∀ k, k ≤ ds.length → ∀ j, -(2000 * (k : Int)) ≤ (balTo42 al ds k).getD j 0 ∧ (balTo42 al ds k).getD j 0 ≤ 2000 * (k : Int)
  | 0, _, j => by
    have : (balTo42 al ds 0).getD j 0 = 0 := by
      simp only [balTo42, List.take_zero, List.foldl_nil, List.getD_eq_getElem?_getD, List.getElem?_replicate]; split <;> rfl
    rw [this]; simp
  | k + 1, hk, j => by
    have ih := bal_bd (al := al) hg k (by omega)
    rw [bal_succ (by omega)]
    have hgd := hg (ds.getD k dD) (by simp [show k < ds.length from by omega])
    unfold goodD at hgd
    unfold balStep
    split
    · have h1 := fun q => set_bd (j := q) (i := (ds.getD k dD).fr.toNat) (v := (balTo42 al ds k).getD (ds.getD k dD).fr.toNat 0 - (ds.getD k dD).m) (d := 2000 * (k : Int) + 1000) ih (by omega) (by have := ih (ds.getD k dD).fr.toNat; omega)
      exact set_bd (d := 2000 * ((k + 1 : Nat) : Int)) h1 (by omega) (by have := h1 (ds.getD k dD).to.toNat; omega)
    · have := ih j; omega
theorem ok3_take {x : List T3} (h : ok3 x) (n : Nat) : ok3 (x.take n) := fun k hk => by
  have h1 : k < n ∧ k < x.length := by simp at hk; omega
  have := h k h1.2
  rw [show (x.take n).getD k d3 = x.getD k d3 from by simp [List.getElem?_take_of_lt h1.1]]; exact this
theorem setEnc0 {l : List Int} {n : Nat} {v : Int} : (l.map encI).set (0 + n) (setR (encI (l.getD n 0)) 0 [pI v]) = (l.set n v).map encI := by
  rw [Nat.zero_add]; exact setEnc
theorem okB_T {l : List T3} : ∀ z ∈ l.map enc3, okB 3 z = true := by
  intro z hz; obtain ⟨b, _, rfl⟩ := List.mem_map.1 hz; rfl
theorem tm2 (a2 : Int) (n : Nat) : 0 ≤ (pickM a2 256 / 2 ^ n).tmod 2 ∧ (pickM a2 256 / 2 ^ n).tmod 2 ≤ 1 := by
  have h1 : 0 ≤ pickM a2 256 / 2 ^ n := Int.ediv_nonneg (pickM_range (by omega)).1 (Int.le_of_lt (Int.pow_pos (by omega)))
  have h2 := Int.tmod_nonneg 2 h1
  have h3 := Int.tmod_lt_of_pos (pickM a2 256 / 2 ^ n) (b := 2) (by omega)
  omega
theorem eltDP {l : List Dbt} {n : Int} (h : n.toNat < l.length) : (l.map encD)[n.toNat]? = some (encD (l.getD n.toNat dD)) := by simp [h]
structure LvA where
  c : Nat
  hc : c = 0
structure LvB (al lv : Int) where
  c : Nat
  ob : Nat
  cap : Nat
  es : List (List PV)
  len : Nat
  h8 : c ≤ 8
  he : es = (levTo42 al lv c).map encI
  hl : len = es.length
  hc : len ≤ cap
theorem lev_len (al lv : Int) (c : Nat) : (levTo42 al lv c).length = c := by simp [levTo42]
structure BaI (al : Int) (ds : List Dbt) where
  k : Nat
  hk : k ≤ ds.length

theorem made42_spec (a0 a1 a2 : Int) (ha0 : in64 a0) (ha1 : in64 a1) (ha2 : in64 a2) (x : List T3) (hxl : x.length ≤ 1000000000) (hx : ok3 x) (fx : Bool) (ds : List Dbt) (hdl : ds.length ≤ 12) (hg : ∀ d ∈ ds, goodD d) (fd : Bool) : Fc Tryz.prog 56 [I a0, I a1, V (x.map enc3) fx, I a2, V (ds.map encD) fd] [] (fun r h' => (∃ f1 f2 f3, r = encW (madeW a0 a1 x a2 ds) f1 f2 f3) ∧ h' = []) := by
 refine fnE_intro (N := 138) Tryz.func56 rfl rfl rfl ?_
 intro X
 refine h_seq<|H<|o_alloc K fun x1 => o_nil<|h_seq<|H<|G Z K ?_
 refine o_call1 Z Z EntC.out K (pick42_spec _ _ (by first | exact ha0 | exact ha1 | exact ha2) K) ?_
 refine o_add Z Z (by have := pickM_range (c := a0) (n := 255) (by omega); unfold in64; (try dsimp only); omega) K ?_
 refine o_build Z Z K<|o_alloc K fun x2 => ?_
 refine o_store 0 Z Z Z Z Z Z<|o_nil<|h_seq<|h_draw _ (.cons _ (.cons_cons _ (List.nil_sublist _))) [(0, .flo), (1, .val), (2, .flo), (3, .flo), (4, .flo), (5, .flo), (6, .sto)] mixed (by kernel_rfl)<|C Z Z (fun jj => F Z Z K K jj)<|c_val Z Z (fun _ _ _ _ jj => O 0 Z Z Z Z K jj)<|C Z Z (fun jj => G Z K jj) ?_
 refine C Z Z (fun jj => o_call1 Z Z EntC.out K (pick42_spec _ _ (by first | exact ha0 | exact ha1 | exact ha2) K) jj) ?_
 refine C Z Z (fun jj => o_bits K rfl rfl K jj)<|C Z Z (fun jj => F Z Z K K jj) ?_
 refine c_sto (.cons _ (.cons_cons _ (List.nil_sublist _))) rfl rfl (fun _ _ _ _ jj => o_store 0 Z Z Z Z Z Z jj)<|c_nil<|h_seq<|H<|G Z K<|G Z K<|o_len Z K<|o_min Z Z K<|o_front Z Z (by omega) (by simp; omega) (fun e he => okB_len (okB_T e he)) K ?_
 have htk : (x.map enc3).take (min ((x.map enc3).length : Int) 8).toNat = (x.take 8).map enc3 := by rw [List.map_take]; by_cases h8 : x.length ≤ 8; rw [List.take_of_length_le (by simp; omega), List.take_of_length_le (by simpa using h8)]; congr 1; simp; omega
 refine o_call1 Z Z EntC.out K (show Fn1 Tryz.prog 115 [V ((x.map enc3).take (min ((x.map enc3).length : Int) 8).toNat) _] _ from by rw [htk]; exact made13_spec (x.take 8) (by simp; omega) (ok3_take hx 8) _) ?_
 refine S Z K<|o_nil<|h_seq<|H<|S Z K<|o_nil<|h_seq<|h_block ?_
 have hpk := pickM_range (c := a0) (n := 255) (by omega)
 obtain ⟨hal1, hal2⟩ : 1 ≤ 1 + pickM a0 255 ∧ 1 + pickM a0 255 ≤ 255 := by omega
 refine h_famS (ι := {k : Nat // k ≤ 7 ∧ ∀ j : Nat, j < k → bitM (1 + pickM a0 255) j = false}) (fun i => [(0, I a0), (1, I a1), (2, V (x.map enc3) fx), (3, I a2), (4, V (ds.map encD) fd), (10, .ptr x1 0), (11, .ptr x2 0), (12, V ((made13 (x.take 8)).map encB) (made13 (x.take 8)).isEmpty), (13, I (i.1 : Nat))]) (fun i => (x2, .box 32 [I (1 + pickM a0 255), I (bits64 .or (1 + pickM a0 255) (pickM a1 256)), V [] true, V [] true, V [] true]) :: (x1, .box 32 [I 0, I 0, V [] true, V [] true, V [] true]) :: []) (fun i => 8 - i.1) ⟨0, by omega, fun j hj => by omega⟩ (.cons_cons _ (.cons_cons _ (.refl _))) (subT.cons Z (subT.cons Z (subT.cons Z (subT.cons Z (subT.cons Z (subT.cons Z (subT.cons Z (subT.cons Z (subT.cons Z subT.nil))))))))) ?_
 rintro ⟨k, hk7, hb⟩
 dsimp only
 have hk8 : k ≤ 7 := by obtain ⟨j, hj, hbj⟩ := bit_first hal1 hal2; rcases Nat.lt_or_ge j k with h | h; rw [hb j h] at hbj; cases hbj; omega
 refine h_seq<|h_seq<|H<|F Z Z K K<|O 0 Z Z Z Z K<|G Z K ?_
 refine o_call1 Z Z EntC.out K (bit42_spec _ _ (by first | omega | (simp only [Int.toNat_natCast]; omega)) (by first | omega | (simp only [Int.toNat_natCast]; omega))) ?_
 refine o_not Z K<|o_nil<|h_cond Z (fun c4 => ?_) (fun c4 => ?_)
 ·
  refine h_skip<|h_block<|H<|G Z K<|o_add Z Z (by unfold in64; (try dsimp only); omega) K ?_
  refine S Z K<|o_nil ?_
  have hbk : bitM (1 + pickM a0 255) k = false := by have := (not_of c4); simpa using this
  refine back rfl ⟨k + 1, (by obtain ⟨j, hj, hbj⟩ := bit_first hal1 hal2; rcases Nat.lt_or_ge k j with h | h; omega; rcases Nat.lt_or_eq_of_le h with h | h; rw [hb j h] at hbj; cases hbj; subst h; rw [hbk] at hbj; cases hbj), fun j hj => (by rcases Nat.lt_succ_iff_lt_or_eq.1 hj with h1 | h1; exact hb j h1; subst h1; exact hbk)⟩ (by dsimp only; omega) (.cons_cons _ (.cons_cons _ (.refl _))) (subT.cons Z (subT.cons Z (subT.cons Z (subT.cons Z (subT.cons Z (subT.cons Z (subT.cons Z (subT.cons Z (subT.cons Z subT.nil)))))))))
 ·
  refine h_exit<|h_seq<|h_seq<|H<|S Z K<|o_nil<|h_block ?_
  have hfb : firstB (1 + pickM a0 255) = k := firstB_eq (by omega) (by have := (not_of c4); simpa using this) hb
  rw [← hfb]
  refine h_famS (ι := (LvA) ⊕ (LvB (1 + pickM a0 255) a2)) (fun i => match i with | .inl i => [(0, I a0), (1, I a1), (2, V (x.map enc3) fx), (3, I a2), (4, V (ds.map encD) fd), (10, .ptr x1 0), (11, .ptr x2 0), (12, V ((swAt (1 + pickM a0 255) (made13 (x.take 8)) i.c).map encB) (swAt (1 + pickM a0 255) (made13 (x.take 8)) i.c).isEmpty), (13, I ((firstB (1 + pickM a0 255) : Nat) : Int)), (14, I (i.c : Nat))] | .inr i => [(0, I a0), (1, I a1), (2, V (x.map enc3) fx), (3, I a2), (4, V (ds.map encD) fd), (10, .ptr x1 0), (11, .ptr x2 0), (12, V ((swAt (1 + pickM a0 255) (made13 (x.take 8)) i.c).map encB) (swAt (1 + pickM a0 255) (made13 (x.take 8)) i.c).isEmpty), (13, I ((firstB (1 + pickM a0 255) : Nat) : Int)), (14, I (i.c : Nat))]) (fun i => match i with | .inl i => (x2, .box 32 [I (1 + pickM a0 255), I (bits64 .or (1 + pickM a0 255) (pickM a1 256)), V [] true, V [] true, V [] true]) :: (x1, .box 32 [I 0, I 0, V [] true, V [] true, V [] true]) :: [] | .inr i => (i.ob, .arr 3 1 i.es i.cap) :: (x2, .box 32 [I (1 + pickM a0 255), I (bits64 .or (1 + pickM a0 255) (pickM a1 256)), V [] true, V [] true, .os i.ob 1 0 i.len i.cap]) :: (x1, .box 32 [I 0, I 0, V [] true, V [] true, V [] true]) :: []) (fun i => match i with | .inl i => 8 - i.c | .inr i => 8 - i.c) (.inl ⟨0, rfl⟩) (.cons_cons _ (.cons_cons _ (.refl _))) (subT.cons Z (subT.cons Z (subT.cons Z (subT.cons Z (subT.cons Z (subT.cons Z (subT.cons Z (subT.cons Z (subT.cons Z (subT.cons Z subT.nil)))))))))) ?_
  rintro (⟨c, hc⟩ | ⟨c, ob, cap, es, len, h8, he, hl, hc⟩)
  ·
   dsimp only
   subst hc
   have hsl := swAt_len (1 + pickM a0 255) (made13 (x.take 8)) (mAt_len _ 12) 0
   refine h_seq<|h_seq<|H<|G Z K<|o_cmp Z Z Z K<|o_nil<|h_condt Z K<|h_skip<|h_seq<|h_block<|h_seq<|h_seq ?_
   refine H<|F Z Z K K<|O 0 Z Z Z Z K<|G Z K ?_
   refine o_call1 Z Z EntC.out K (bit42_spec _ _ (by first | omega | (simp only [Int.toNat_natCast]; omega)) (by first | omega | (simp only [Int.toNat_natCast]; omega))) ?_
   refine o_not Z K<|o_nil<|h_cond Z (fun c7 => ?_) (fun c7 => ?_)
   ·
    refine H<|G Z K<|G Z K<|G Z K ?_
    refine o_call1 Z Z EntC.out K (rswap_spec _ (by omega) _ _ _)<|G Z K<|o_extract Z Z K<|o_extract Z Z K<|S Z K<|o_nil<|h_seq<|H<|S Z K<|o_nil<|h_seq<|h_seq ?_
    refine H<|F Z Z K K<|O 0 Z Z Z Z K<|G Z K ?_
    refine o_call1 Z Z EntC.out K (bit42_spec _ _ (by first | omega | (simp only [Int.toNat_natCast]; omega)) (by first | omega | (simp only [Int.toNat_natCast]; omega))) ?_
    refine o_nil<|h_condf Z (not_of c7)<|h_skip<|H<|F Z Z K K<|O 0 Z Z Z Z K<|G Z K<|o_buildSlicep Z (by rfl) (by rfl) (by rfl) (by rfl) K ?_
    refine o_appendv Z Z (Src.v _ _) (okB_one rfl) (by simp [chunk]) (by rw [chunk_length]; omega) (by simp [chunk_length]; try omega) K fun x8 c9 hc10 => ?_
    refine F Z Z K K ?_
    refine o_store 1 Z Z Z Z Z Z<|o_nil<|H<|G Z K<|o_add Z Z (by unfold in64; (try dsimp only); omega) K ?_
    refine S Z K<|o_nil ?_
    have hbc : bitM (1 + pickM a0 255) ((0 : Nat) : Int) = false := (not_of c7)
    have hsw : swAt (1 + pickM a0 255) (made13 (x.take 8)) (0 + 1) = (swapR (swAt (1 + pickM a0 255) (made13 (x.take 8)) 0) ((0 : Nat) : Int) ((firstB (1 + pickM a0 255) : Nat) : Int)).1 := by simp only [swAt, hbc]; rfl
    have hlv : levTo42 (1 + pickM a0 255) a2 (0 + 1) = levTo42 (1 + pickM a0 255) a2 0 ++ [0] := by simp only [levTo42, List.range_succ, List.map_append, List.map_cons, List.map_nil, levB, hbc]; rfl
    refine back rfl (.inr ⟨0 + 1, x8, c9, _, _, by omega, (by rw [hlv]; simp [encI, chunk, zav, levTo42]), (by simp), (by simpa [chunk_length] using hc10)⟩) (by dsimp only; omega) (.cons_cons _ (.cons_cons _ (.cons_cons _ (.refl _)))) (subT.cons Z (subT.cons Z (subT.cons Z (subT.cons Z (subT.cons Z (subT.cons Z (subT.cons Z (subT.cons (by dsimp only; rw [hsw]; rfl) (subT.cons Z (subT.cons Z subT.nil))))))))))
   ·
    refine h_skip<|h_seq<|H<|S Z K<|o_nil<|h_seq<|h_seq<|H<|F Z Z K K<|O 0 Z Z Z Z K<|G Z K ?_
    refine o_call1 Z Z EntC.out K (bit42_spec _ _ (by first | omega | (simp only [Int.toNat_natCast]; omega)) (by first | omega | (simp only [Int.toNat_natCast]; omega))) ?_
    refine o_nil<|h_condt Z (not_of c7)<|H<|G Z K ?_
    refine o_call1 Z Z EntC.out K (pick42_spec _ _ (by first | exact ha0 | exact ha1 | exact ha2) K) ?_
    refine G Z K<|o_shr Z Z (by omega) (by omega) K<|o_rem Z Z K K<|o_add Z Z (by have := tm2 a2 ((0 : Nat) : Int).toNat; unfold in64; (try dsimp only); omega) K ?_
    refine S Z K<|o_nil<|H<|F Z Z K K<|O 0 Z Z Z Z K<|G Z K<|o_buildSlicep Z (by rfl) (by rfl) (by rfl) (by rfl) K ?_
    refine o_appendv Z Z (Src.v _ _) (okB_one rfl) (by simp [chunk]) (by rw [chunk_length]; omega) (by simp [chunk_length]; try omega) K fun x11 c12 hc13 => ?_
    refine F Z Z K K ?_
    refine o_store 1 Z Z Z Z Z Z<|o_nil<|H<|G Z K<|o_add Z Z (by unfold in64; (try dsimp only); omega) K ?_
    refine S Z K<|o_nil ?_
    have hbc : bitM (1 + pickM a0 255) ((0 : Nat) : Int) = true := (not_of c7)
    have hsw : swAt (1 + pickM a0 255) (made13 (x.take 8)) (0 + 1) = swAt (1 + pickM a0 255) (made13 (x.take 8)) 0 := by simp only [swAt, hbc]; rfl
    have hlv : levTo42 (1 + pickM a0 255) a2 (0 + 1) = levTo42 (1 + pickM a0 255) a2 0 ++ [3 + (pickM a2 256 / 2 ^ 0).tmod 2] := by simp only [levTo42, List.range_succ, List.map_append, List.map_cons, List.map_nil, levB, hbc]; rfl
    refine back rfl (.inr ⟨0 + 1, x11, c12, _, _, by omega, (by rw [hlv]; simp [encI, chunk, zav, levTo42]), (by simp), (by simpa [chunk_length] using hc13)⟩) (by dsimp only; omega) (.cons_cons _ (.cons_cons _ (.cons_cons _ (.refl _)))) (subT.cons Z (subT.cons Z (subT.cons Z (subT.cons Z (subT.cons Z (subT.cons Z (subT.cons Z (subT.cons (by dsimp only; rw [hsw]; rfl) (subT.cons Z (subT.cons Z subT.nil))))))))))
  ·
   dsimp only
   subst he; subst hl
   have hsl := swAt_len (1 + pickM a0 255) (made13 (x.take 8)) (mAt_len _ 12) c
   have hll := lev_len (1 + pickM a0 255) a2 c
   by_cases hlt : c < 8
   ·
    refine h_seq<|h_seq<|H<|G Z K<|o_cmp Z Z Z K<|o_nil<|h_condt Z (by simp; omega) ?_
    refine h_skip<|h_seq<|h_block<|h_seq<|h_seq<|H<|F Z Z K K<|O 1 Z Z Z Z K<|G Z K ?_
    refine o_call1 Z Z EntC.out K (bit42_spec _ _ (by first | omega | (simp only [Int.toNat_natCast]; omega)) (by first | omega | (simp only [Int.toNat_natCast]; omega))) ?_
    refine o_not Z K<|o_nil<|h_cond Z (fun c16 => ?_) (fun c16 => ?_)
    ·
     refine H<|G Z K<|G Z K<|G Z K ?_
     refine o_call1 Z Z EntC.out K (rswap_spec _ (by omega) _ _ _)<|G Z K<|o_extract Z Z K<|o_extract Z Z K<|S Z K<|o_nil<|h_seq<|H<|S Z K<|o_nil<|h_seq<|h_seq ?_
     refine H<|F Z Z K K<|O 1 Z Z Z Z K<|G Z K ?_
     refine o_call1 Z Z EntC.out K (bit42_spec _ _ (by first | omega | (simp only [Int.toNat_natCast]; omega)) (by first | omega | (simp only [Int.toNat_natCast]; omega))) ?_
     refine o_nil<|h_condf Z (not_of c16)<|h_skip<|H<|F Z Z K K<|O 1 Z Z Z Z K<|G Z K<|o_buildSlicep Z (by rfl) (by rfl) (by rfl) (by rfl) K ?_
     refine o_append 0 Z Z Z (Src.v _ _) (okB_one rfl) (by simp) (by simp [chunk_length]; try omega) K fun x17 c18 hc19 => ?_
     refine F Z Z K K ?_
     refine o_store 1 Z Z Z Z Z Z<|o_nil<|H<|G Z K<|o_add Z Z (by unfold in64; (try dsimp only); omega) K ?_
     refine S Z K<|o_nil ?_
     have hbc : bitM (1 + pickM a0 255) ((c : Nat) : Int) = false := (not_of c16)
     have hsw : swAt (1 + pickM a0 255) (made13 (x.take 8)) (c + 1) = (swapR (swAt (1 + pickM a0 255) (made13 (x.take 8)) c) ((c : Nat) : Int) ((firstB (1 + pickM a0 255) : Nat) : Int)).1 := by simp only [swAt, hbc]; rfl
     have hlv : levTo42 (1 + pickM a0 255) a2 (c + 1) = levTo42 (1 + pickM a0 255) a2 c ++ [0] := by simp only [levTo42, List.range_succ, List.map_append, List.map_cons, List.map_nil, levB, hbc]; rfl
     refine back rfl (.inr ⟨c + 1, x17, c18, _, _, by omega, (by rw [hlv]; simp [encI, chunk, zav]), (by simp), (by simpa [chunk_length] using hc19)⟩) (by dsimp only; omega) (.cons_cons _ (.cons_cons _ (.cons_cons _ (.refl _)))) (subT.cons Z (subT.cons Z (subT.cons Z (subT.cons Z (subT.cons Z (subT.cons Z (subT.cons Z (subT.cons (by dsimp only; rw [hsw]; rfl) (subT.cons Z (subT.cons Z subT.nil))))))))))
    ·
     refine h_skip<|h_seq<|H<|S Z K<|o_nil<|h_seq<|h_seq<|H<|F Z Z K K<|O 1 Z Z Z Z K<|G Z K ?_
     refine o_call1 Z Z EntC.out K (bit42_spec _ _ (by first | omega | (simp only [Int.toNat_natCast]; omega)) (by first | omega | (simp only [Int.toNat_natCast]; omega))) ?_
     refine o_nil<|h_condt Z (not_of c16)<|H<|G Z K ?_
     refine o_call1 Z Z EntC.out K (pick42_spec _ _ (by first | exact ha0 | exact ha1 | exact ha2) K) ?_
     refine G Z K<|o_shr Z Z (by omega) (by omega) K<|o_rem Z Z K K<|o_add Z Z (by have := tm2 a2 ((c : Nat) : Int).toNat; unfold in64; (try dsimp only); omega) K ?_
     refine S Z K<|o_nil<|H<|F Z Z K K<|O 1 Z Z Z Z K<|G Z K<|o_buildSlicep Z (by rfl) (by rfl) (by rfl) (by rfl) K ?_
     refine o_append 0 Z Z Z (Src.v _ _) (okB_one rfl) (by simp) (by simp [chunk_length]; try omega) K fun x20 c21 hc22 => ?_
     refine F Z Z K K ?_
     refine o_store 1 Z Z Z Z Z Z<|o_nil<|H<|G Z K<|o_add Z Z (by unfold in64; (try dsimp only); omega) K ?_
     refine S Z K<|o_nil ?_
     have hbc : bitM (1 + pickM a0 255) ((c : Nat) : Int) = true := (not_of c16)
     have hsw : swAt (1 + pickM a0 255) (made13 (x.take 8)) (c + 1) = swAt (1 + pickM a0 255) (made13 (x.take 8)) c := by simp only [swAt, hbc]; rfl
     have hlv : levTo42 (1 + pickM a0 255) a2 (c + 1) = levTo42 (1 + pickM a0 255) a2 c ++ [3 + (pickM a2 256 / 2 ^ c).tmod 2] := by simp only [levTo42, List.range_succ, List.map_append, List.map_cons, List.map_nil, levB, hbc]; rfl
     refine back rfl (.inr ⟨c + 1, x20, c21, _, _, by omega, (by rw [hlv]; simp [encI, chunk, zav]), (by simp), (by simpa [chunk_length] using hc22)⟩) (by dsimp only; omega) (.cons_cons _ (.cons_cons _ (.cons_cons _ (.refl _)))) (subT.cons Z (subT.cons Z (subT.cons Z (subT.cons Z (subT.cons Z (subT.cons Z (subT.cons Z (subT.cons (by dsimp only; rw [hsw]; rfl) (subT.cons Z (subT.cons Z subT.nil))))))))))
   ·
    obtain rfl : c = 8 := by omega
    refine h_seq<|h_seq<|H<|G Z K<|o_cmp Z Z Z K<|o_nil<|h_condf Z (by simp) ?_
    refine h_exit<|h_seq<|H<|G Z K<|F Z Z K K ?_
    refine o_store 1 Z Z Z Z Z Z<|o_nil<|h_seq<|H<|o_makeSlice (n := 8) rfl K fun x24 => F Z Z K K ?_
    refine o_store 2 Z Z Z Z Z Z<|o_nil<|h_seq<|h_seq<|H<|S Z K<|o_nil<|h_block ?_
    skip
    refine h_famS (ι := BaI (1 + pickM a0 255) ds) (fun i => [(0, I a0), (1, I a1), (2, V (x.map enc3) fx), (3, I a2), (4, V (ds.map encD) fd), (10, .ptr x1 0), (11, .ptr x2 0), (16, I (i.k : Nat))]) (fun i => (x24, .arr 3 1 ((balTo42 (1 + pickM a0 255) ds i.k).map encI) 8) :: (ob, .arr 3 1 ((levTo42 (1 + pickM a0 255) a2 8).map encI) cap) :: (x2, .box 32 [I (1 + pickM a0 255), I (bits64 .or (1 + pickM a0 255) (pickM a1 256)), V ((swAt (1 + pickM a0 255) (made13 (x.take 8)) 8).map encB) (swAt (1 + pickM a0 255) (made13 (x.take 8)) 8).isEmpty, .os x24 1 0 8 8, .os ob 1 0 8 cap]) :: (x1, .box 32 [I 0, I 0, V [] true, V [] true, V [] true]) :: []) (fun i => ds.length - i.k) ⟨0, Nat.zero_le _⟩ (.cons_cons _ (.cons_cons _ (.cons_cons _ (.cons_cons _ (.refl _))))) (subT.cons Z (subT.cons Z (subT.cons Z (subT.cons Z (subT.cons Z (subT.cons Z (subT.cons Z (subT.cons Z subT.nil)))))))) ?_
    rintro ⟨k, hk⟩
    dsimp only
    have hbl := bal_len (1 + pickM a0 255) ds k
    by_cases hlt : k < ds.length
    ·
     obtain ⟨d0, hd0⟩ : ∃ d0, d0 = ds.getD k dD := ⟨_, rfl⟩
     have hgd : goodD d0 := hg _ (by rw [hd0]; simp [hlt])
     obtain ⟨hg1, hg2, hg3⟩ := hgd
     have hbb1 : ∀ j, -30000 ≤ (balTo42 (1 + pickM a0 255) ds k).getD j 0 ∧ (balTo42 (1 + pickM a0 255) ds k).getD j 0 ≤ 30000 := fun j => by have := bal_bd (al := (1 + pickM a0 255)) hg k (by omega) j; omega
     have hbb2 : ∀ j, -40000 ≤ ((balTo42 (1 + pickM a0 255) ds k).set d0.fr.toNat ((balTo42 (1 + pickM a0 255) ds k).getD d0.fr.toNat 0 - d0.m)).getD j 0 ∧ ((balTo42 (1 + pickM a0 255) ds k).set d0.fr.toNat ((balTo42 (1 + pickM a0 255) ds k).getD d0.fr.toNat 0 - d0.m)).getD j 0 ≤ 40000 := fun j => set_bd hbb1 (by omega) (by have := hbb1 d0.fr.toNat; omega)
     refine h_seq<|h_seq<|H<|G Z K<|G Z K<|o_len Z K<|o_cmp Z Z Z K<|o_nil<|h_condt Z (by simp; omega) ?_
     refine h_skip<|h_seq<|h_block<|h_seq<|H<|G Z K<|G Z K<|o_idxv Z Z (by omega) (show _ = some (encD d0) from by rw [eltDP (by omega)]; simp only [Int.toNat_natCast, ← hd0]) rfl K<|o_loadv Z Z K<|o_alloc K fun x26 => ?_
     refine o_store 0 Z Z Z Z Z Z<|o_nil<|h_seq<|H<|F Z Z K K<|O 0 Z Z Z Z K<|o_call1 Z Z EntC.out K (in42_spec _ _ _)<|G Z K<|o_guard Z Z K (fun g28 => ?_) (fun g28 => ?_)
     ·
      have g28 : _ = true := g28
      refine F Z Z K K<|W Z Z g28 K<|O 0 Z Z Z Z K<|W Z Z g28 K<|o_call1 Z Z EntC.out K (in42_spec _ _ _)<|o_pickt Z g28 rfl K<|G Z K<|o_guard Z Z K (fun g30 => ?_) (fun g30 => ?_)
      ·
       have g30 : _ = true := g30
       refine F Z Z K K<|W Z Z g30 K<|O 3 Z Z Z Z K<|W Z Z g30 K<|F Z Z K K<|W Z Z g30 K<|O 0 Z Z Z Z K<|W Z Z g30 K ?_
       refine o_call1 Z Z EntC.out K (bit42_spec _ _ (by first | omega | (simp only [Int.toNat_natCast]; omega)) (by first | omega | (simp only [Int.toNat_natCast]; omega))) ?_
       refine o_pickt Z g30 rfl K<|G Z K<|o_guard Z Z K (fun g32 => ?_) (fun g32 => ?_)
       ·
        have g32 : _ = true := g32
        refine F Z Z K K<|W Z Z g32 K<|O 3 Z Z Z Z K<|W Z Z g32 K<|F Z Z K K<|W Z Z g32 K<|O 0 Z Z Z Z K<|W Z Z g32 K ?_
        refine o_call1 Z Z EntC.out K (bit42_spec _ _ (by first | omega | (simp only [Int.toNat_natCast]; omega)) (by first | omega | (simp only [Int.toNat_natCast]; omega))) ?_
        refine o_pickt Z g32 rfl K<|o_nil<|h_cond Z (fun c34 => ?_) (fun c34 => ?_)
        ·
         refine h_seq<|h_draw _ (.cons_cons _ (.cons _ (.cons _ (.cons_cons _ (.cons_cons _ (List.nil_sublist _)))))) [(0, .flo), (1, .box), (2, .flo), (3, .box), (4, .flo), (5, .box), (6, .flo), (7, .box), (8, .flo), (9, .val), (10, .flo), (11, .box), (12, .flo), (13, .flo), (14, .sto)] mixed (by kernel_rfl)<|C Z Z (fun jj => F Z Z K K jj)<|c_box Z Z (fun _ _ _ _ jj => O 1 Z Z Z Z K jj)<|C Z Z (fun jj => F Z Z K K jj)<|c_box Z Z (fun _ _ _ _ jj => O 0 Z Z Z Z K jj)<|C Z Z (fun jj => F Z Z K K jj)<|c_box Z Z (fun _ _ _ _ jj => O 1 Z Z Z Z K jj)<|C Z Z (fun jj => F Z Z K K jj)<|c_box Z Z (fun _ _ _ _ jj => O 0 Z Z Z Z K jj)<|C Z Z (fun jj => o_idxo Z Z (by omega) (by omega) K jj)<|c_val Z Z (fun _ _ _ _ jj => o_loade 1 Z Z (eltW (by simp [hbl]; omega)) rfl rfl K jj) ?_
         refine C Z Z (fun jj => F Z Z K K jj)<|c_box Z Z (fun _ _ _ _ jj => O 0 Z Z Z Z K jj)<|C Z Z (fun jj => o_sub Z Z (by have := hbb1 d0.fr.toNat; unfold in64; (try dsimp only); omega) K jj) ?_
         refine C Z Z (fun jj => o_idxo Z Z (by omega) (by omega) K jj) ?_
         refine c_sto (.cons_cons _ (.cons _ (.cons _ (.cons_cons _ (.cons_cons _ (List.nil_sublist _)))))) rfl rfl (fun _ _ _ _ jj => o_storee 1 Z Z (eltW (by simp [hbl]; omega)) rfl rfl rfl rfl (by simp [encI]) jj) ?_
         refine c_nil<|h_heap (congrArg (fun z => [_, (x24, OB.arr 3 1 z 8), _, _, _]) (setEnc0 (l := (balTo42 (1 + pickM a0 255) ds k)) (n := d0.fr.toNat) (v := (balTo42 (1 + pickM a0 255) ds k).getD d0.fr.toNat 0 - d0.m)))<|h_draw _ (.cons_cons _ (.cons _ (.cons _ (.cons_cons _ (.cons_cons _ (List.nil_sublist _)))))) [(0, .flo), (1, .box), (2, .flo), (3, .box), (4, .flo), (5, .box), (6, .flo), (7, .box), (8, .flo), (9, .val), (10, .flo), (11, .box), (12, .flo), (13, .flo), (14, .sto)] mixed (by kernel_rfl)<|C Z Z (fun jj => F Z Z K K jj)<|c_box Z Z (fun _ _ _ _ jj => O 1 Z Z Z Z K jj)<|C Z Z (fun jj => F Z Z K K jj)<|c_box Z Z (fun _ _ _ _ jj => O 0 Z Z Z Z K jj)<|C Z Z (fun jj => F Z Z K K jj)<|c_box Z Z (fun _ _ _ _ jj => O 1 Z Z Z Z K jj)<|C Z Z (fun jj => F Z Z K K jj)<|c_box Z Z (fun _ _ _ _ jj => O 0 Z Z Z Z K jj)<|C Z Z (fun jj => o_idxo Z Z (by omega) (by omega) K jj) ?_
         refine c_val Z Z (fun _ _ _ _ jj => o_loade 1 Z Z (eltW (by simp [hbl]; omega)) rfl rfl K jj) ?_
         refine C Z Z (fun jj => F Z Z K K jj)<|c_box Z Z (fun _ _ _ _ jj => O 0 Z Z Z Z K jj)<|C Z Z (fun jj => o_add Z Z (by have := hbb2 d0.to.toNat; unfold in64; (try dsimp only); omega) K jj) ?_
         refine C Z Z (fun jj => o_idxo Z Z (by omega) (by omega) K jj) ?_
         refine c_sto (.cons_cons _ (.cons _ (.cons _ (.cons_cons _ (.cons_cons _ (List.nil_sublist _)))))) rfl rfl (fun _ _ _ _ jj => o_storee 1 Z Z (eltW (by simp [hbl]; omega)) rfl rfl rfl rfl (by simp [encI]) jj) ?_
         refine c_nil<|h_heap (congrArg (fun z => [_, (x24, OB.arr 3 1 z 8), _, _, _]) (setEnc0 (l := ((balTo42 (1 + pickM a0 255) ds k).set d0.fr.toNat ((balTo42 (1 + pickM a0 255) ds k).getD d0.fr.toNat 0 - d0.m))) (n := d0.to.toNat) (v := ((balTo42 (1 + pickM a0 255) ds k).set d0.fr.toNat ((balTo42 (1 + pickM a0 255) ds k).getD d0.fr.toNat 0 - d0.m)).getD d0.to.toNat 0 + d0.m)))<|H<|G Z K<|o_add Z Z (by unfold in64; (try dsimp only); omega) K ?_
         refine S Z K<|o_nil ?_
         have hbs : balTo42 (1 + pickM a0 255) ds (k + 1) = (((balTo42 (1 + pickM a0 255) ds k).set d0.fr.toNat ((balTo42 (1 + pickM a0 255) ds k).getD d0.fr.toNat 0 - d0.m)).set d0.to.toNat (((balTo42 (1 + pickM a0 255) ds k).set d0.fr.toNat ((balTo42 (1 + pickM a0 255) ds k).getD d0.fr.toNat 0 - d0.m)).getD d0.to.toNat 0 + d0.m)) := (bal_succ hlt).trans (by rw [← hd0]; unfold balStep; rw [if_pos (by simp_all)])
         refine back rfl ⟨k + 1, hlt⟩ (by dsimp only; omega) (by dsimp only; rw [hbs]; exact (.cons _ (.cons_cons _ (.cons_cons _ (.cons_cons _ (.cons_cons _ (.refl _))))))) (subT.cons Z (subT.cons Z (subT.cons Z (subT.cons Z (subT.cons Z (subT.cons Z (subT.cons Z (subT.cons Z subT.nil))))))))
        ·
         refine h_skip<|H<|G Z K<|o_add Z Z (by unfold in64; (try dsimp only); omega) K ?_
         refine S Z K<|o_nil ?_
         have hbs : balTo42 (1 + pickM a0 255) ds (k + 1) = (balTo42 (1 + pickM a0 255) ds k) := (bal_succ hlt).trans (by rw [← hd0]; unfold balStep; rw [if_neg (by simp_all)])
         refine back rfl ⟨k + 1, hlt⟩ (by dsimp only; omega) (by dsimp only; rw [hbs]; exact (.cons _ (.cons_cons _ (.cons_cons _ (.cons_cons _ (.cons_cons _ (.refl _))))))) (subT.cons Z (subT.cons Z (subT.cons Z (subT.cons Z (subT.cons Z (subT.cons Z (subT.cons Z (subT.cons Z subT.nil))))))))
       ·
        have g32 : _ = false := g32
        refine U Z Z g32 K<|U Z Z g32 K<|U Z Z g32 K<|U Z Z g32 K<|o_pickf Z g32 rfl K<|o_nil<|h_condf Z Z<|h_skip<|H<|G Z K<|o_add Z Z (by unfold in64; (try dsimp only); omega) K ?_
        refine S Z K<|o_nil ?_
        have hbs : balTo42 (1 + pickM a0 255) ds (k + 1) = (balTo42 (1 + pickM a0 255) ds k) := (bal_succ hlt).trans (by rw [← hd0]; unfold balStep; rw [if_neg (by simp_all)])
        refine back rfl ⟨k + 1, hlt⟩ (by dsimp only; omega) (by dsimp only; rw [hbs]; exact (.cons _ (.cons_cons _ (.cons_cons _ (.cons_cons _ (.cons_cons _ (.refl _))))))) (subT.cons Z (subT.cons Z (subT.cons Z (subT.cons Z (subT.cons Z (subT.cons Z (subT.cons Z (subT.cons Z subT.nil))))))))
      ·
       have g30 : _ = false := g30
       refine U Z Z g30 K<|U Z Z g30 K<|U Z Z g30 K<|U Z Z g30 K<|o_pickf Z g30 rfl K<|G Z K<|U Z Z Z K<|U Z Z Z K<|U Z Z Z K<|U Z Z Z K<|U Z Z Z K<|o_pickf Z Z Z K ?_
       refine o_nil<|h_condf Z Z<|h_skip<|H<|G Z K<|o_add Z Z (by unfold in64; (try dsimp only); omega) K ?_
       refine S Z K<|o_nil ?_
       have hbs : balTo42 (1 + pickM a0 255) ds (k + 1) = (balTo42 (1 + pickM a0 255) ds k) := (bal_succ hlt).trans (by rw [← hd0]; unfold balStep; rw [if_neg (by simp_all)])
       refine back rfl ⟨k + 1, hlt⟩ (by dsimp only; omega) (by dsimp only; rw [hbs]; exact (.cons _ (.cons_cons _ (.cons_cons _ (.cons_cons _ (.cons_cons _ (.refl _))))))) (subT.cons Z (subT.cons Z (subT.cons Z (subT.cons Z (subT.cons Z (subT.cons Z (subT.cons Z (subT.cons Z subT.nil))))))))
     ·
      have g28 : _ = false := g28
      refine U Z Z g28 K<|U Z Z g28 K<|o_pickf Z g28 rfl K<|G Z K<|U Z Z Z K<|U Z Z Z K<|U Z Z Z K<|U Z Z Z K<|U Z Z Z K<|o_pickf Z Z Z K<|G Z K<|U Z Z Z K ?_
      refine U Z Z Z K<|U Z Z Z K<|U Z Z Z K<|U Z Z Z K<|o_pickf Z Z Z K<|o_nil<|h_condf Z Z<|h_skip<|H<|G Z K<|o_add Z Z (by unfold in64; (try dsimp only); omega) K ?_
      refine S Z K<|o_nil ?_
      have hbs : balTo42 (1 + pickM a0 255) ds (k + 1) = (balTo42 (1 + pickM a0 255) ds k) := (bal_succ hlt).trans (by rw [← hd0]; unfold balStep; rw [if_neg (by simp_all)])
      refine back rfl ⟨k + 1, hlt⟩ (by dsimp only; omega) (by dsimp only; rw [hbs]; exact (.cons _ (.cons_cons _ (.cons_cons _ (.cons_cons _ (.cons_cons _ (.refl _))))))) (subT.cons Z (subT.cons Z (subT.cons Z (subT.cons Z (subT.cons Z (subT.cons Z (subT.cons Z (subT.cons Z subT.nil))))))))
    ·
     obtain rfl : k = ds.length := by omega
     refine h_seq<|h_seq<|H<|G Z K<|G Z K<|o_len Z K<|o_cmp Z Z Z K<|o_nil<|h_condf Z (by simp <;> omega) ?_
     refine h_exit<|h_seq<|H<|O 2 Z Z Z Z K ?_
     exact o_store 3 Z Z Z Z Z Z<|o_nil<|h_ret<|retF (.cons (resC 3 rfl rfl rfl) .nil) (frz5 (.refl _) (.refl _) (.refl _) (frz_os List.mem_cons_self (by simp [madeW, hbl]) (by omega)) (frz_os (List.mem_cons_of_mem _ List.mem_cons_self) (by simp [madeW, levTo42]) (by have h9 := hc; rw [List.length_map, lev_len] at h9; exact h9))) ⟨_, rfl, ⟨_, false, false, rfl⟩, rfl⟩

end Go.Proofs.YtnoicbajhlpndaaGreat
