/- The walk of the law MergeBack; what it leaves to show of worlds. -/
import Derived.Test.YtbnonekkjjcdgaaLawA
import Derived.Test.YtbnonekkjjcdgaaBackA
namespace Go.Proofs.Ytbnonekkjjcdgaa
open Go Go.RowKit Go.Shelf Hp
set_option maxRecDepth 10000
set_option maxHeartbeats 1000000
set_option linter.unusedVariables false
set_option linter.unusedSimpArgs false
attribute [local irreducible] WP WPs FnX IterX YdX RetP PanP Ch Back Join
def splitE (b c f t m : Int) : Ev := ⟨2, 0, b, c, 0, f, t, m⟩
def backE (b c : Int) : Ev := ⟨1, 0, c, b, 0, 0, 0, 0⟩
/-- A part that is split off, and merges again. -/
def BackLaw : Prop := ∀ (w : Wd) (b c f t m : Int), VParts w → w.blocks.length ≤ 16 → (∀ j, -24000 ≤ w.bal.getD j 0 ∧ w.bal.getD j 0 ≤ 24000) → 0 ≤ b → b ≤ 7 → 0 ≤ c → c ≤ 7 → rangeOk f t = true → -1000 ≤ m → m ≤ 1000 →
  ((stepM w (splitE b c f t m)).2 ≠ 0 → (stepM w (splitE b c f t m)).2 = 420 ∧ (bitM w.alive b = false ∨ bitM w.ever c = true)) ∧
  ((stepM w (splitE b c f t m)).2 = 0 → (stepM (stepM w (splitE b c f t m)).1 (backE b c)).2 = 0 ∧ (stepM (stepM w (splitE b c f t m)).1 (backE b c)).1.ever = bits64 .or w.ever (1 * 2 ^ c.toNat) ∧
    (onlyB w.blocks f t).2 = 0 ∧ (onlyB (stepM w (splitE b c f t m)).1.blocks f t).2 = 0 ∧ eqW { (stepM (stepM w (splitE b c f t m)).1 (backE b c)).1 with ever := w.ever } w = true ∧
    countB (onlyB (stepM w (splitE b c f t m)).1.blocks f t).1 c = countB (onlyB w.blocks f t).1 b ∧ countB (stepM w (splitE b c f t m)).1.blocks c = countB (onlyB w.blocks f t).1 b ∧ countB (onlyB (stepM w (splitE b c f t m)).1.blocks f t).1 b = 0)
theorem piece_ok (a b : Int) : rangeOk (pieceR a b).1 (pieceR a b).2 = true := by
  have h := piece_rng a b
  simp only [rangeOk, decide_eq_true_eq]
  unfold pieceR
  split <;> (dsimp only; omega)
/-- What is known of a slice's capacity may be forgotten. -/
theorem weakP {hp : Array Obj} {imm : Nat → Prop} {es : List (List PV)} {f : Bool} {v : Value} (h : RelP hp imm (.vs es f) v) : RelP hp imm (.vs es false) v := by
  cases h with
  | nil => exact .nil false
  | vs _ _ b off k cap cells ty fz hb hi hf hc hs hk hr => exact .vs es false b off k cap cells ty fz hb hi (by intro h; cases h) hc hs hk hr
theorem weakA {hp : Array Obj} {imm : Nat → Prop} {es : List (List PV)} {f : Bool} {v : Value} (h : RelA hp imm (V es f) v) : RelA hp imm (V es false) v := by
  cases h with
  | p h => exact .p (weakP h)
theorem weakW {hp : Array Obj} {imm : Nat → Prop} {w : Wd} {f1 f2 f3 : Bool} {v : Value} (h : RelA hp imm (encW w f1 f2 f3) v) : RelA hp imm (encW w false false false) v := by
  cases h with
  | agg cs vals hs hr =>
    refine .agg _ _ (by simpa using hs) fun i c v hc hv => ?_
    match i with
    | 0 => exact hr 0 c v hc hv
    | 1 => exact hr 1 c v hc hv
    | 2 => cases hc; exact weakA (hr 2 _ v rfl hv)
    | 3 => cases hc; exact weakA (hr 3 _ v rfl hv)
    | 4 => cases hc; exact weakA (hr 4 _ v rfl hv)
    | i + 5 => cases hc
theorem weakT {hp : Array Obj} {imm : Nat → Prop} {w : Wd} {f1 f2 f3 : Bool} {n : Int} {v : Value} (h : RelA hp imm (.tup [encW w f1 f2 f3, I n]) v) : RelA hp imm (.tup [encW w false false false, I n]) v := by
  cases h with
  | tup cs vals hs hr =>
    refine .tup _ _ (by simpa using hs) fun i c v hc hv => ?_
    match i with
    | 0 => cases hc; exact weakW (hr 0 _ v rfl hv)
    | 1 => exact hr 1 c v hc hv
    | i + 2 => cases hc
theorem stepF_spec (w : Wd) (e : Ev) (f1 f2 f3 : Bool) : Fn1 Try.prog 9 [encW w f1 f2 f3, encE e] (.tup [encW (stepM w e).1 false false false, I (stepM w e).2]) := by
  intro X
  have hs := mStep_spec w e f1 f2 f3 X
  unfold FnX at hs ⊢
  intro w0 vals hh ha
  refine (hs w0 vals hh ha).mono fun e' w' ⟨E, h', ⟨r, hE, hr0, u1, u2, u3, hr1⟩, hr, hh', hx⟩ => ?_
  subst hE; subst hr0; subst hr1
  cases hr with
  | ret hr => exact ⟨_, [], ⟨_, rfl, rfl, rfl⟩, .ret (weakT hr), hh', hx⟩
theorem small_v {w : Wd} (h : VParts w) : smallW w := ⟨by have := valid_len h.blk; omega, by have := h.lb; omega, by have := h.ll; omega⟩

theorem mergeBack_spec (hlaw : BackLaw) (a0 a1 a2 : Int) (ha0 : in64 a0) (ha1 : in64 a1) (ha2 : in64 a2) (x y : List T3) (hxl : x.length ≤ 1000000000) (hyl : y.length ≤ 1000000000) (hx : ok3 x) (hy : ok3 y) (fx fy : Bool) (p0 p1 a4 a5 a6 : Int) (hp0 : in64 p0) (hp1 : in64 p1) (ha4 : in64 a4) (ha5 : in64 a5) (ha6 : in64 a6) : Fn1 Try.prog 4 [.agg [I a0, I a1, I a2], V (x.map enc3) fx, V (y.map enc3) fy, .agg [I p0, I p1], I a4, I a5, I a6] (B true) := by
  refine fnE_intro (N := 150) Try.func4 rfl rfl rfl ?_
  intro X
  refine h_seq ?_
  refine h_region ?_
  refine o_box rfl rfl (by decide) fun x1 => ?_
  refine o_box rfl rfl (by decide) fun x2 => ?_
  refine o_assign rfl (by decide) ?_
  refine o_nil ?_
  refine h_seq ?_
  refine h_region ?_
  refine o_call1 rfl rfl EntC.out (by decide) sane_spec ?_
  refine o_assign rfl (by decide) ?_
  refine o_nil ?_
  refine h_seq ?_
  refine h_seq ?_
  refine h_region ?_
  refine o_move rfl (by decide) ?_
  refine o_not rfl (by decide) ?_
  refine o_nil ?_
  refine h_condf rfl rfl ?_
  refine h_skip ?_
  refine h_seq ?_
  refine h_region ?_
  refine o_load 1 rfl rfl rfl rfl (by decide) ?_
  refine o_move rfl (by decide) ?_
  refine o_move rfl (by decide) ?_
  refine o_callN rfl rfl EntC.out (by decide) (made_spec a0 a1 a2 ha0 ha1 ha2 x y hxl hyl hx hy fx fy) fun v h' hr => ?_
  obtain ⟨⟨ds, w1, w2, w3, w4, rfl, hdl, hgd⟩, rfl⟩ := hr
  obtain ⟨hmv, hmb, hmm, hma⟩ := made_valid a0 a1 x a2 ds hdl hgd
  obtain ⟨w, hw⟩ : ∃ w, w = madeW a0 a1 x a2 ds := ⟨_, rfl⟩
  rw [← hw] at hmv hmb hmm ⊢
  refine o_move rfl (by decide) ?_
  refine o_extract rfl rfl (by decide) ?_
  refine o_extract rfl rfl (by decide) ?_
  refine o_alloc (by decide) fun x4 => ?_
  refine o_store 0 rfl rfl rfl rfl rfl rfl ?_
  refine o_assign rfl (by decide) ?_
  refine o_nil ?_
  refine h_seq ?_
  refine h_region ?_
  refine o_idxa rfl rfl (by decide) (by decide) (by decide) ?_
  refine o_load 1 rfl rfl rfl rfl (by decide) ?_
  refine o_idxa rfl rfl (by decide) (by decide) (by decide) ?_
  refine o_load 1 rfl rfl rfl rfl (by decide) ?_
  refine o_call1 rfl rfl EntC.out (by decide) (piece_spec p0 p1 hp0 hp1) ?_
  have hpr := piece_ok p0 p1
  obtain ⟨f, hf⟩ : ∃ f, f = (pieceR p0 p1).1 := ⟨_, rfl⟩
  obtain ⟨t, ht⟩ : ∃ t, t = (pieceR p0 p1).2 := ⟨_, rfl⟩
  rw [← hf, ← ht] at hpr ⊢
  refine o_alloc (by decide) fun x5 => ?_
  refine o_store 0 rfl rfl rfl rfl rfl rfl ?_
  refine o_nil ?_
  refine h_seq ?_
  refine h_region ?_
  refine o_move rfl (by decide) ?_
  refine o_call1 rfl rfl EntC.out (by decide) (pickL_spec _ _ (by first | exact ha4 | exact ha5 | exact ha6) (by decide)) ?_
  refine o_assign rfl (by decide) ?_
  refine o_nil ?_
  refine h_seq ?_
  refine h_region ?_
  refine o_move rfl (by decide) ?_
  refine o_call1 rfl rfl EntC.out (by decide) (pickL_spec _ _ (by first | exact ha4 | exact ha5 | exact ha6) (by decide)) ?_
  refine o_assign rfl (by decide) ?_
  refine o_nil ?_
  have pb := pickM_range (c := a5) (n := 8) (by omega)
  have pc := pickM_range (c := a6) (n := 8) (by omega)
  have pm := pickM_range (c := a4) (n := 2001) (by omega)
  obtain ⟨b, hb⟩ : ∃ b, b = pickM a5 8 := ⟨_, rfl⟩
  obtain ⟨c, hc⟩ : ∃ c, c = pickM a6 8 := ⟨_, rfl⟩
  rw [← hb] at pb ⊢
  rw [← hc] at pc ⊢
  obtain ⟨hl1, hl2⟩ := hlaw w b c f t (pickM a4 2001 - 1000) hmv hmb hmm pb.1 (by omega) pc.1 (by omega) hpr (by omega) (by omega)
  refine h_seq ?_
  refine h_draw _ (.cons_cons _ (.cons_cons _ (.cons_cons _ (.cons_cons _ (List.nil_sublist _))))) [(0, .box), (1, .flo), (2, .flo), (3, .box), (4, .flo), (5, .flo), (6, .flo), (7, .flo), (8, .flo), (9, .flo), (10, .flo), (11, .flo), (12, .new), (13, .sto), (14, .flo)] mixed (by kernel_rfl) ?_
  refine c_box rfl rfl (fun Xq rq Qq dq kq => o_load 1 rfl rfl rfl rfl (by decide) kq) ?_
  refine c_flo rfl rfl (fun Xq rq Qq dq kq => o_move rfl (by decide) kq) ?_
  refine c_flo rfl rfl (fun Xq rq Qq dq kq => o_move rfl (by decide) kq) ?_
  refine c_box rfl rfl (fun Xq rq Qq dq kq => o_load 0 rfl rfl rfl rfl (by decide) kq) ?_
  refine c_flo rfl rfl (fun Xq rq Qq dq kq => o_move rfl (by decide) kq) ?_
  refine c_flo rfl rfl (fun Xq rq Qq dq kq => o_call1 rfl rfl EntC.out (by decide) (pickL_spec _ _ (by first | exact ha4 | exact ha5 | exact ha6) (by decide)) kq) ?_
  refine c_flo rfl rfl (fun Xq rq Qq dq kq => o_sub rfl rfl (by have := pickM_range (c := a4) (n := 2001) (by omega); unfold in64; (try dsimp only); omega) (by decide) kq) ?_
  refine c_flo rfl rfl (fun Xq rq Qq dq kq => o_build rfl rfl (by decide) kq) ?_
  refine c_flo rfl rfl (fun Xq rq Qq dq kq => o_call1 rfl rfl EntC.out (by decide) (stepF_spec w (splitE b c f t (pickM a4 2001 - 1000)) w1 w2 w3) kq) ?_
  refine c_flo rfl rfl (fun Xq rq Qq dq kq => o_move rfl (by decide) kq) ?_
  refine c_flo rfl rfl (fun Xq rq Qq dq kq => o_extract rfl rfl (by decide) kq) ?_
  refine c_flo rfl rfl (fun Xq rq Qq dq kq => o_extract rfl rfl (by decide) kq) ?_
  refine c_new rfl rfl (fun Xq rq Qq dq kq => o_alloc (by decide) kq) fun x6 => ?_
  refine c_sto (.cons _ (.cons_cons _ (.cons_cons _ (.cons_cons _ (.cons_cons _ (List.nil_sublist _)))))) rfl rfl (fun Xq rq Qq dq kq => o_store 0 rfl rfl rfl rfl rfl rfl kq) ?_
  refine c_flo rfl rfl (fun Xq rq Qq dq kq => o_assign rfl (by decide) kq) ?_
  refine c_nil ?_
  refine h_seq ?_
  refine h_seq ?_
  refine h_region ?_
  refine o_move rfl (by decide) ?_
  refine o_cmp rfl rfl rfl (by decide) ?_
  refine o_nil ?_
  refine h_cond rfl (fun c8 => ?_) (fun c8 => ?_)
  ·
    refine h_seq ?_
    refine h_region ?_
    refine o_move rfl (by decide) ?_
    refine o_cmp rfl rfl rfl (by decide) ?_
    refine o_move rfl (by decide) ?_
    refine o_guard rfl rfl (by decide) (fun g10 => ?_) (fun g10 => ?_)
    ·
      have g10 : _ = true := g10
      refine o_faddr rfl rfl (by decide) (by decide) ?_
      refine o_guardy rfl rfl g10 (by decide) ?_
      refine o_load 2 rfl rfl rfl rfl (by decide) ?_
      refine o_guardy rfl rfl g10 (by decide) ?_
      refine o_move rfl (by decide) ?_
      refine o_guardy rfl rfl g10 (by decide) ?_
      refine o_call1 rfl rfl EntC.out (by decide) (bitL_spec _ _ (by omega) (by omega)) ?_
      refine o_guardy rfl rfl g10 (by decide) ?_
      refine o_not rfl (by decide) ?_
      refine o_guardy rfl rfl g10 (by decide) ?_
      refine o_move rfl (by decide) ?_
      refine o_guard rfl rfl (by decide) (fun g12 => ?_) (fun g12 => ?_)
      ·
        have g12 : _ = false := g12
        refine o_faddr rfl rfl (by decide) (by decide) ?_
        refine o_guardy rfl rfl (by rw [(not_of g12)]; rfl) (by decide) ?_
        refine o_load 2 rfl rfl rfl rfl (by decide) ?_
        refine o_guardy rfl rfl (by rw [(not_of g12)]; rfl) (by decide) ?_
        refine o_move rfl (by decide) ?_
        refine o_guardy rfl rfl (by rw [(not_of g12)]; rfl) (by decide) ?_
        refine o_call1 rfl rfl EntC.out (by decide) (bitL_spec _ _ (by omega) (by omega)) ?_
        refine o_guardy rfl rfl g10 (by decide) ?_
        refine o_pickf rfl (by rw [(not_of g12)]; rfl) rfl (by decide) ?_
        refine o_pickt rfl g10 rfl (by decide) ?_
        refine o_assign rfl (by decide) ?_
        refine o_nil ?_
        refine h_ret ?_
        have hne : (stepM w (splitE b c f t (pickM a4 2001 - 1000))).2 ≠ 0 := by simp_all
        obtain ⟨q1, q2⟩ := hl1 hne
        exact ret1' rfl (B_eq (by rcases q2 with q2 | q2 <;> simp_all))
      ·
        have g12 : _ = true := g12
        refine o_guardn rfl rfl (by rw [(not_of g12)]; rfl) (by decide) ?_
        refine o_guardn rfl rfl (by rw [(not_of g12)]; rfl) (by decide) ?_
        refine o_guardn rfl rfl (by rw [(not_of g12)]; rfl) (by decide) ?_
        refine o_guardy rfl rfl g10 (by decide) ?_
        refine o_pickt rfl (by rw [(not_of g12)]; rfl) rfl (by decide) ?_
        refine o_pickt rfl g10 rfl (by decide) ?_
        refine o_assign rfl (by decide) ?_
        refine o_nil ?_
        refine h_ret ?_
        have hne : (stepM w (splitE b c f t (pickM a4 2001 - 1000))).2 ≠ 0 := by simp_all
        obtain ⟨q1, q2⟩ := hl1 hne
        exact ret1' rfl (B_eq (by rcases q2 with q2 | q2 <;> simp_all))
    ·
      have g10 : _ = false := g10
      refine o_guardn rfl rfl g10 (by decide) ?_
      refine o_guardn rfl rfl g10 (by decide) ?_
      refine o_guardn rfl rfl g10 (by decide) ?_
      refine o_guardn rfl rfl g10 (by decide) ?_
      refine o_guardn rfl rfl g10 (by decide) ?_
      refine o_guardx rfl rfl (by decide) ?_
      refine o_guardx rfl rfl (by decide) ?_
      refine o_guardx rfl rfl (by decide) ?_
      refine o_guardx rfl rfl (by decide) ?_
      refine o_guardn rfl rfl g10 (by decide) ?_
      refine o_pickf rfl g10 rfl (by decide) ?_
      refine o_assign rfl (by decide) ?_
      refine o_nil ?_
      refine h_ret ?_
      have hne : (stepM w (splitE b c f t (pickM a4 2001 - 1000))).2 ≠ 0 := by simp_all
      obtain ⟨q1, q2⟩ := hl1 hne
      exact ret1' rfl (B_eq (by rcases q2 with q2 | q2 <;> simp_all))
  ·
    refine h_skip ?_
    refine h_seq ?_
    refine h_region ?_
    refine o_load 0 rfl rfl rfl rfl (by decide) ?_
    refine o_move rfl (by decide) ?_
    refine o_move rfl (by decide) ?_
    refine o_build rfl rfl (by decide) ?_
    have hs1 : (stepM w (splitE b c f t (pickM a4 2001 - 1000))).2 = 0 := by simp_all
    obtain ⟨b1, b2, b3, b4, b5, b6, b7, b8⟩ := hl2 hs1
    refine o_call1 rfl rfl EntC.out (by decide) (stepF_spec (stepM w (splitE b c f t (pickM a4 2001 - 1000))).1 (backE b c) _ _ _) ?_
    refine o_move rfl (by decide) ?_
    refine o_extract rfl rfl (by decide) ?_
    refine o_extract rfl rfl (by decide) ?_
    refine o_alloc (by decide) fun x14 => ?_
    refine o_store 0 rfl rfl rfl rfl rfl rfl ?_
    refine o_assign rfl (by decide) ?_
    refine o_nil ?_
    refine h_seq ?_
    refine h_seq ?_
    refine h_draw _ (List.nil_sublist _) [(0, .flo), (1, .flo), (2, .flo), (3, .flo), (4, .val), (5, .flo), (6, .val), (7, .flo), (8, .flo), (9, .flo), (10, .flo), (11, .flo)] mixed (by kernel_rfl) ?_
    refine c_flo rfl rfl (fun Xq rq Qq dq kq => o_move rfl (by decide) kq) ?_
    refine c_flo rfl rfl (fun Xq rq Qq dq kq => o_cmp rfl rfl rfl (by decide) kq) ?_
    refine c_flo rfl rfl (fun Xq rq Qq dq kq => o_move rfl (by decide) kq) ?_
    refine c_split (t := 87) rfl (fun g16 => ?_) (fun g16 => ?_)
    ·
      have g16 : _ = true := g16
      refine c_flo rfl rfl (fun Xq rq Qq dq kq => o_guardn rfl rfl g16 (by decide) kq) ?_
      refine c_val rfl rfl (fun Xq rq Qq dq kq => o_guardn rfl rfl g16 (by decide) kq) ?_
      refine c_flo rfl rfl (fun Xq rq Qq dq kq => o_guardn rfl rfl g16 (by decide) kq) ?_
      refine c_val rfl rfl (fun Xq rq Qq dq kq => o_guardn rfl rfl g16 (by decide) kq) ?_
      refine c_flo rfl rfl (fun Xq rq Qq dq kq => o_guardn rfl rfl g16 (by decide) kq) ?_
      refine c_flo rfl rfl (fun Xq rq Qq dq kq => o_guardn rfl rfl g16 (by decide) kq) ?_
      refine c_flo rfl rfl (fun Xq rq Qq dq kq => o_guardn rfl rfl g16 (by decide) kq) ?_
      refine c_flo rfl rfl (fun Xq rq Qq dq kq => o_guardn rfl rfl g16 (by decide) kq) ?_
      refine c_flo rfl rfl (fun Xq rq Qq dq kq => o_pickt rfl g16 rfl (by decide) kq) ?_
      refine c_nil ?_
      refine h_condt rfl rfl ?_
      refine h_seq ?_
      refine h_region ?_
      refine o_assign rfl (by decide) ?_
      refine o_nil ?_
      refine h_ret ?_
      exact ret1' rfl (B_eq (by simp_all))
    ·
      have g16 : _ = false := g16
      refine c_flo rfl rfl (fun Xq rq Qq dq kq => o_guardy rfl rfl g16 (by decide) (o_faddr rfl rfl (by decide) (by decide) kq)) ?_
      refine c_val rfl rfl (fun Xq rq Qq dq kq => o_guardy rfl rfl g16 (by decide) (o_load 0 rfl rfl rfl rfl (by decide) kq)) ?_
      refine c_flo rfl rfl (fun Xq rq Qq dq kq => o_guardy rfl rfl g16 (by decide) (o_faddr rfl rfl (by decide) (by decide) kq)) ?_
      refine c_val rfl rfl (fun Xq rq Qq dq kq => o_guardy rfl rfl g16 (by decide) (o_load 3 rfl rfl rfl rfl (by decide) kq)) ?_
      refine c_flo rfl rfl (fun Xq rq Qq dq kq => o_guardy rfl rfl g16 (by decide) (o_move rfl (by decide) kq)) ?_
      refine c_flo rfl rfl (fun Xq rq Qq dq kq => o_guardy rfl rfl g16 (by decide) (o_shl rfl rfl (by omega) (by omega) (pow_small pc.1 (by omega)) (by decide) kq)) ?_
      refine c_flo rfl rfl (fun Xq rq Qq dq kq => o_guardy rfl rfl g16 (by decide) (o_bits (by decide) rfl rfl (by decide) kq)) ?_
      refine c_flo rfl rfl (fun Xq rq Qq dq kq => o_guardy rfl rfl g16 (by decide) (o_cmp rfl rfl rfl (by decide) kq)) ?_
      refine c_flo rfl rfl (fun Xq rq Qq dq kq => o_pickf rfl g16 rfl (by decide) kq) ?_
      refine c_nil ?_
      refine h_cond rfl (fun c18 => ?_) (fun c18 => ?_)
      ·
        refine h_seq ?_
        refine h_region ?_
        refine o_assign rfl (by decide) ?_
        refine o_nil ?_
        refine h_ret ?_
        exact ret1' rfl (B_eq (by simp_all))
      ·
        refine h_skip ?_
        refine h_seq ?_
        refine h_region ?_
        refine o_faddr rfl rfl (by decide) (by decide) ?_
        refine o_load 3 rfl rfl rfl rfl (by decide) ?_
        refine o_load 2 rfl rfl rfl rfl (by decide) ?_
        refine o_call1 rfl rfl EntC.out (by decide) (only_spec _ _ _ _) ?_
        refine o_move rfl (by decide) ?_
        refine o_extract rfl rfl (by decide) ?_
        refine o_extract rfl rfl (by decide) ?_
        refine o_assign rfl (by decide) ?_
        refine o_assign rfl (by decide) ?_
        refine o_nil ?_
        refine h_seq ?_
        refine h_region ?_
        refine o_faddr rfl rfl (by decide) (by decide) ?_
        refine o_load 1 rfl rfl rfl rfl (by decide) ?_
        refine o_load 2 rfl rfl rfl rfl (by decide) ?_
        refine o_call1 rfl rfl EntC.out (by decide) (only_spec _ _ _ _) ?_
        refine o_move rfl (by decide) ?_
        refine o_extract rfl rfl (by decide) ?_
        refine o_extract rfl rfl (by decide) ?_
        refine o_assign rfl (by decide) ?_
        refine o_assign rfl (by decide) ?_
        refine o_nil ?_
        refine h_seq ?_
        refine h_region ?_
        refine o_faddr rfl rfl (by decide) (by decide) ?_
        refine o_load 3 rfl rfl rfl rfl (by decide) ?_
        refine o_faddr rfl rfl (by decide) (by decide) ?_
        refine o_store 0 rfl rfl rfl rfl rfl rfl ?_
        refine o_nil ?_
        refine h_seq ?_
        refine h_region ?_
        refine o_move rfl (by decide) ?_
        refine o_cmp rfl rfl rfl (by decide) ?_
        refine o_move rfl (by decide) ?_
        refine o_guard rfl rfl (by decide) (fun g20 => ?_) (fun g20 => ?_)
        ·
          have g20 : _ = true := g20
          refine o_move rfl (by decide) ?_
          refine o_guardy rfl rfl g20 (by decide) ?_
          refine o_cmp rfl rfl rfl (by decide) ?_
          refine o_pickt rfl g20 rfl (by decide) ?_
          refine o_move rfl (by decide) ?_
          refine o_guard rfl rfl (by decide) (fun g22 => ?_) (fun g22 => ?_)
          ·
            have g22 : _ = true := g22
            refine o_load 0 rfl rfl rfl rfl (by decide) ?_
            refine o_guardy rfl rfl g22 (by decide) ?_
            refine o_load 3 rfl rfl rfl rfl (by decide) ?_
            refine o_guardy rfl rfl g22 (by decide) ?_
            refine o_call1 rfl rfl EntC.out (by decide) (show Fn1 _ _ [encW { (stepM (stepM w (splitE b c f t (pickM a4 2001 - 1000))).1 (backE b c)).1 with ever := w.ever } _ _ _, encW w _ _ _] _ from same42_spec { (stepM (stepM w (splitE b c f t (pickM a4 2001 - 1000))).1 (backE b c)).1 with ever := w.ever } w (stepM_small (stepM w (splitE b c f t (pickM a4 2001 - 1000))).1 (backE b c)) (small_v hmv) _ _ _ _ _ _) ?_
            refine o_pickt rfl g22 rfl (by decide) ?_
            refine o_move rfl (by decide) ?_
            refine o_guard rfl rfl (by decide) (fun g24 => ?_) (fun g24 => ?_)
            ·
              have g24 : _ = true := g24
              refine o_move rfl (by decide) ?_
              refine o_guardy rfl rfl g24 (by decide) ?_
              refine o_move rfl (by decide) ?_
              refine o_guardy rfl rfl g24 (by decide) ?_
              refine o_call1 rfl rfl EntC.out (by decide) (count_spec _ _ _) ?_
              refine o_guardy rfl rfl g24 (by decide) ?_
              refine o_move rfl (by decide) ?_
              refine o_guardy rfl rfl g24 (by decide) ?_
              refine o_move rfl (by decide) ?_
              refine o_guardy rfl rfl g24 (by decide) ?_
              refine o_call1 rfl rfl EntC.out (by decide) (count_spec _ _ _) ?_
              refine o_guardy rfl rfl g24 (by decide) ?_
              refine o_cmp rfl rfl rfl (by decide) ?_
              refine o_pickt rfl g24 rfl (by decide) ?_
              refine o_move rfl (by decide) ?_
              refine o_guard rfl rfl (by decide) (fun g26 => ?_) (fun g26 => ?_)
              ·
                have g26 : _ = true := g26
                refine o_faddr rfl rfl (by decide) (by decide) ?_
                refine o_guardy rfl rfl g26 (by decide) ?_
                refine o_load 1 rfl rfl rfl rfl (by decide) ?_
                refine o_guardy rfl rfl g26 (by decide) ?_
                refine o_move rfl (by decide) ?_
                refine o_guardy rfl rfl g26 (by decide) ?_
                refine o_call1 rfl rfl EntC.out (by decide) (count_spec _ _ _) ?_
                refine o_guardy rfl rfl g26 (by decide) ?_
                refine o_move rfl (by decide) ?_
                refine o_guardy rfl rfl g26 (by decide) ?_
                refine o_move rfl (by decide) ?_
                refine o_guardy rfl rfl g26 (by decide) ?_
                refine o_call1 rfl rfl EntC.out (by decide) (count_spec _ _ _) ?_
                refine o_guardy rfl rfl g26 (by decide) ?_
                refine o_cmp rfl rfl rfl (by decide) ?_
                refine o_pickt rfl g26 rfl (by decide) ?_
                refine o_move rfl (by decide) ?_
                refine o_guard rfl rfl (by decide) (fun g28 => ?_) (fun g28 => ?_)
                ·
                  have g28 : _ = true := g28
                  refine o_move rfl (by decide) ?_
                  refine o_guardy rfl rfl g28 (by decide) ?_
                  refine o_move rfl (by decide) ?_
                  refine o_guardy rfl rfl g28 (by decide) ?_
                  refine o_call1 rfl rfl EntC.out (by decide) (count_spec _ _ _) ?_
                  refine o_guardy rfl rfl g28 (by decide) ?_
                  refine o_cmp rfl rfl rfl (by decide) ?_
                  refine o_pickt rfl g28 rfl (by decide) ?_
                  refine o_assign rfl (by decide) ?_
                  refine o_nil ?_
                  refine h_ret ?_
                  exact ret1' rfl (B_eq (by simp_all))
                ·
                  have g28 : _ = false := g28
                  refine o_guardn rfl rfl g28 (by decide) ?_
                  refine o_guardn rfl rfl g28 (by decide) ?_
                  refine o_guardn rfl rfl g28 (by decide) ?_
                  refine o_pickf rfl g28 rfl (by decide) ?_
                  refine o_assign rfl (by decide) ?_
                  refine o_nil ?_
                  refine h_ret ?_
                  exact ret1' rfl (B_eq (by simp_all))
              ·
                have g26 : _ = false := g26
                refine o_guardn rfl rfl g26 (by decide) ?_
                refine o_guardn rfl rfl g26 (by decide) ?_
                refine o_guardn rfl rfl g26 (by decide) ?_
                refine o_guardn rfl rfl g26 (by decide) ?_
                refine o_guardn rfl rfl g26 (by decide) ?_
                refine o_guardn rfl rfl g26 (by decide) ?_
                refine o_guardn rfl rfl g26 (by decide) ?_
                refine o_pickf rfl g26 rfl (by decide) ?_
                refine o_move rfl (by decide) ?_
                refine o_guardn rfl rfl rfl (by decide) ?_
                refine o_guardn rfl rfl rfl (by decide) ?_
                refine o_guardn rfl rfl rfl (by decide) ?_
                refine o_guardn rfl rfl rfl (by decide) ?_
                refine o_pickf rfl rfl rfl (by decide) ?_
                refine o_assign rfl (by decide) ?_
                refine o_nil ?_
                refine h_ret ?_
                exact ret1' rfl (B_eq (by simp_all))
            ·
              have g24 : _ = false := g24
              refine o_guardn rfl rfl g24 (by decide) ?_
              refine o_guardn rfl rfl g24 (by decide) ?_
              refine o_guardn rfl rfl g24 (by decide) ?_
              refine o_guardn rfl rfl g24 (by decide) ?_
              refine o_guardn rfl rfl g24 (by decide) ?_
              refine o_guardn rfl rfl g24 (by decide) ?_
              refine o_pickf rfl g24 rfl (by decide) ?_
              refine o_move rfl (by decide) ?_
              refine o_guardn rfl rfl rfl (by decide) ?_
              refine o_guardn rfl rfl rfl (by decide) ?_
              refine o_guardn rfl rfl rfl (by decide) ?_
              refine o_guardn rfl rfl rfl (by decide) ?_
              refine o_guardn rfl rfl rfl (by decide) ?_
              refine o_guardn rfl rfl rfl (by decide) ?_
              refine o_guardn rfl rfl rfl (by decide) ?_
              refine o_guardn rfl rfl rfl (by decide) ?_
              refine o_pickf rfl rfl rfl (by decide) ?_
              refine o_move rfl (by decide) ?_
              refine o_guardn rfl rfl rfl (by decide) ?_
              refine o_guardn rfl rfl rfl (by decide) ?_
              refine o_guardn rfl rfl rfl (by decide) ?_
              refine o_guardn rfl rfl rfl (by decide) ?_
              refine o_pickf rfl rfl rfl (by decide) ?_
              refine o_assign rfl (by decide) ?_
              refine o_nil ?_
              refine h_ret ?_
              exact ret1' rfl (B_eq (by simp_all))
          ·
            have g22 : _ = false := g22
            refine o_guardn rfl rfl g22 (by decide) ?_
            refine o_guardn rfl rfl g22 (by decide) ?_
            refine o_pickf rfl g22 rfl (by decide) ?_
            refine o_move rfl (by decide) ?_
            refine o_guardn rfl rfl rfl (by decide) ?_
            refine o_guardn rfl rfl rfl (by decide) ?_
            refine o_guardn rfl rfl rfl (by decide) ?_
            refine o_guardn rfl rfl rfl (by decide) ?_
            refine o_guardn rfl rfl rfl (by decide) ?_
            refine o_guardn rfl rfl rfl (by decide) ?_
            refine o_guardn rfl rfl rfl (by decide) ?_
            refine o_pickf rfl rfl rfl (by decide) ?_
            refine o_move rfl (by decide) ?_
            refine o_guardn rfl rfl rfl (by decide) ?_
            refine o_guardn rfl rfl rfl (by decide) ?_
            refine o_guardn rfl rfl rfl (by decide) ?_
            refine o_guardn rfl rfl rfl (by decide) ?_
            refine o_guardn rfl rfl rfl (by decide) ?_
            refine o_guardn rfl rfl rfl (by decide) ?_
            refine o_guardn rfl rfl rfl (by decide) ?_
            refine o_guardn rfl rfl rfl (by decide) ?_
            refine o_pickf rfl rfl rfl (by decide) ?_
            refine o_move rfl (by decide) ?_
            refine o_guardn rfl rfl rfl (by decide) ?_
            refine o_guardn rfl rfl rfl (by decide) ?_
            refine o_guardn rfl rfl rfl (by decide) ?_
            refine o_guardn rfl rfl rfl (by decide) ?_
            refine o_pickf rfl rfl rfl (by decide) ?_
            refine o_assign rfl (by decide) ?_
            refine o_nil ?_
            refine h_ret ?_
            exact ret1' rfl (B_eq (by simp_all))
        ·
          have g20 : _ = false := g20
          refine o_guardn rfl rfl g20 (by decide) ?_
          refine o_pickf rfl g20 rfl (by decide) ?_
          refine o_move rfl (by decide) ?_
          refine o_guardn rfl rfl rfl (by decide) ?_
          refine o_guardn rfl rfl rfl (by decide) ?_
          refine o_guardn rfl rfl rfl (by decide) ?_
          refine o_pickf rfl rfl rfl (by decide) ?_
          refine o_move rfl (by decide) ?_
          refine o_guardn rfl rfl rfl (by decide) ?_
          refine o_guardn rfl rfl rfl (by decide) ?_
          refine o_guardn rfl rfl rfl (by decide) ?_
          refine o_guardn rfl rfl rfl (by decide) ?_
          refine o_guardn rfl rfl rfl (by decide) ?_
          refine o_guardn rfl rfl rfl (by decide) ?_
          refine o_guardn rfl rfl rfl (by decide) ?_
          refine o_pickf rfl rfl rfl (by decide) ?_
          refine o_move rfl (by decide) ?_
          refine o_guardn rfl rfl rfl (by decide) ?_
          refine o_guardn rfl rfl rfl (by decide) ?_
          refine o_guardn rfl rfl rfl (by decide) ?_
          refine o_guardn rfl rfl rfl (by decide) ?_
          refine o_guardn rfl rfl rfl (by decide) ?_
          refine o_guardn rfl rfl rfl (by decide) ?_
          refine o_guardn rfl rfl rfl (by decide) ?_
          refine o_guardn rfl rfl rfl (by decide) ?_
          refine o_pickf rfl rfl rfl (by decide) ?_
          refine o_move rfl (by decide) ?_
          refine o_guardn rfl rfl rfl (by decide) ?_
          refine o_guardn rfl rfl rfl (by decide) ?_
          refine o_guardn rfl rfl rfl (by decide) ?_
          refine o_guardn rfl rfl rfl (by decide) ?_
          refine o_pickf rfl rfl rfl (by decide) ?_
          refine o_assign rfl (by decide) ?_
          refine o_nil ?_
          refine h_ret ?_
          exact ret1' rfl (B_eq (by simp_all))

end Go.Proofs.Ytbnonekkjjcdgaa
/- Counting numbers; what the program's own combine returns, where it fits. -/
namespace Go.Proofs.Ytbnonekkjjcdgaa
open Go Go.RowKit Go.Shelf Hp
set_option maxRecDepth 10000
set_option maxHeartbeats 1000000
set_option linter.unusedVariables false
set_option linter.unusedSimpArgs false
attribute [local irreducible] WP WPs FnX IterX YdX RetP PanP Ch Back Join
/-! ### counting -/
def filt (x : Int) (l : List Blk) : List Blk := (l.filter fun b => decide (b.c = x)).map fun b => ⟨b.f, b.t, 0⟩
theorem filt_cons (x : Int) (b : Blk) (r : List Blk) : filt x (b :: r) = if b.c = x then ⟨b.f, b.t, 0⟩ :: filt x r else filt x r := by
  by_cases h : b.c = x <;> simp [filt, List.filter_cons, h]
theorem can_lower {e e' c : Int} (h : e < e') : ∀ {l : List Blk}, Can e' (-1) l → Can e c l
  | [], _ => trivial
  | b :: r, ⟨g1, g2, g3, g4, g5, g6, g7⟩ => ⟨by omega, g2, g3, g4, g5, by omega, g7⟩
theorem filt_can (x : Int) : ∀ {l : List Blk} {e c : Int}, Can e c l → Can e (if c = x then 0 else -1) (filt x l)
  | [], _, _, _ => trivial
  | b :: r, e, c, ⟨g1, g2, g3, g4, g5, g6, g7⟩ => by
    have ih := filt_can x g7
    rw [filt_cons]
    by_cases h : b.c = x
    · rw [if_pos h] at ih ⊢
      refine ⟨g1, g2, g3, by simp, by simp, ?_, ih⟩
      dsimp only
      split
      · rename_i h2; intro h3; exact g6 ⟨h3.1, by omega⟩
      · omega
    · rw [if_neg h] at ih ⊢
      exact can_lower (by omega) ih
theorem filt_hd {x m : Int} (hx : 0 ≤ x) : ∀ {l : List Blk} {e c : Int}, Can e c l → hd m (filt x l) = if hd m l = x then 0 else -1
  | [], _, _, _ => by
    show hd m [] = _
    rw [if_neg (show ¬ hd m [] = x from by show ¬ (-1 : Int) = x; omega)]; rfl
  | b :: r, e, c, ⟨g1, g2, g3, g4, g5, g6, g7⟩ => by
    have ih := filt_hd (m := m) hx g7
    rw [filt_cons]
    have hl : m < b.t → hd m (filt x r) = -1 := fun h => hd_lt (filt_can x g7) h
    by_cases c1 : b.t ≤ m
    · have e1 : hd m (b :: r) = hd m r := by simp only [hd]; rw [if_pos c1]
      rw [e1]
      split
      · simp only [hd]; rw [if_pos c1]; exact ih
      · exact ih
    · by_cases c2 : m < b.f
      · have e1 : hd m (b :: r) = -1 := by simp only [hd]; rw [if_neg c1, if_pos c2]
        rw [e1, if_neg (show ¬ (-1 : Int) = x by omega)]
        split
        · simp only [hd]; rw [if_neg c1, if_pos c2]
        · exact hl (by omega)
      · have e1 : hd m (b :: r) = b.c := by simp only [hd]; rw [if_neg c1, if_neg c2]
        rw [e1]
        split
        · simp only [hd]; rw [if_neg c1, if_neg c2]
        · exact hl (by omega)
theorem cnt_filt (x : Int) : ∀ l : List Blk, cntB x l = cntB 0 (filt x l)
  | [] => rfl
  | b :: r => by
    rw [filt_cons]
    simp only [cntB]
    rw [cnt_filt x r]
    split
    · simp only [cntB, if_true]
    · omega
/-- As many numbers, if the same numbers. -/
theorem count_eq {l l' : List Blk} {x y : Int} (h : Can 0 (-1) l) (h' : Can 0 (-1) l') (hx : 0 ≤ x) (hy : 0 ≤ y) (he : ∀ m, 0 ≤ m → m < 100000000 → (hd m l = x ↔ hd m l' = y)) : cntB x l = cntB y l' := by
  rw [cnt_filt x, cnt_filt y]
  congr 1
  have c1 := filt_can x h
  have c2 := filt_can y h'
  rw [if_neg (by omega)] at c1 c2
  refine can_eq c1 c2 fun m m0 m1 => ?_
  rw [filt_hd hx h, filt_hd hy h']
  have := he m m0 m1
  by_cases hh : hd m l = x
  · rw [if_pos hh, if_pos (this.1 hh)]
  · rw [if_neg hh, if_neg (fun h2 => hh (this.2 h2))]
/-- Nobody's numbers. -/
theorem count_zero {l : List Blk} {x : Int} (h : Can 0 (-1) l) (hx : 0 ≤ x) (he : ∀ m, 0 ≤ m → m < 100000000 → hd m l ≠ x) : cntB x l = 0 := by
  have := count_eq (l' := []) (y := 0) h trivial hx (by omega) fun m m0 m1 => by
    simp only [hd]
    exact ⟨fun h => absurd h (he m m0 m1), fun h => by omega⟩
  rw [this]; rfl
/-! ### combine, where it fits -/
theorem combM_ok {hol : Int → Int → Int} {a b : List Blk} {s : List Int} (ha : Can 0 (-1) a) (hb : Can 0 (-1) b) (hr : ∀ x y, (x = -1 ∨ (0 ≤ x ∧ x ≤ 7)) → (y = -1 ∨ (0 ≤ y ∧ y ≤ 7)) → hol x y = -1 ∨ (0 ≤ hol x y ∧ hol x y ≤ 7)) (h1 : hol (-1) (-1) = -1) (h40 : s.length ≤ 40)
    (hs : ∀ n, 0 ≤ n → n < 100000000 → 0 ≤ hol (hd n a) (hd n b) → hol (hd (n - 1) a) (hd (n - 1) b) ≠ hol (hd n a) (hd n b) → n ∈ s) :
    (combM a b hol).2 = 0 ∧ Mp (combM a b hol).1 s.length ∧ ∀ m, 0 ≤ m → m < 100000000 → hd m (combM a b hol).1 = hol (hd m a) (hd m b) := by
  have hc := comb_can ha hb hr
  have hl := len_starts (s := s) hc fun n n0 n1 g0 g1 => by
    rw [comb_hd ha hb n0 n1] at g0 g1
    refine hs n n0 n1 g0 ?_
    rcases Int.lt_or_le (n - 1) 0 with hneg | hpos
    · rw [hd_lt ha hneg, hd_lt hb hneg, h1]; omega
    · rw [comb_hd ha hb hpos (by omega)] at g1; exact g1
  unfold combM
  rw [if_neg (by omega)]
  exact ⟨rfl, ⟨hc, hl⟩, fun m m0 m1 => comb_hd ha hb m0 m1⟩
theorem only_rng : ∀ x y : Int, (x = -1 ∨ (0 ≤ x ∧ x ≤ 7)) → (y = -1 ∨ (0 ≤ y ∧ y ≤ 7)) → onlyM x y = -1 ∨ (0 ≤ onlyM x y ∧ onlyM x y ≤ 7) := by
  intro x y hx hy; unfold onlyM; split; exact .inl rfl; exact hx
theorem over_rng : ∀ x y : Int, (x = -1 ∨ (0 ≤ x ∧ x ≤ 7)) → (y = -1 ∨ (0 ≤ y ∧ y ≤ 7)) → overM x y = -1 ∨ (0 ≤ overM x y ∧ overM x y ≤ 7) := by
  intro x y hx hy; unfold overM; split; exact hx; exact hy
theorem swap_rng {f t : Int} (ht : 0 ≤ t ∧ t ≤ 7) : ∀ x y : Int, (x = -1 ∨ (0 ≤ x ∧ x ≤ 7)) → (y = -1 ∨ (0 ≤ y ∧ y ≤ 7)) → swapM f t x y = -1 ∨ (0 ≤ swapM f t x y ∧ swapM f t x y ≤ 7) := by
  intro x y hx hy; unfold swapM; split; exact .inr ht; exact hx
theorem only_ok {l : List Blk} {k : Nat} (h : Mp l k) (hk : k + 1 ≤ 40) {f t : Int} (hr : rangeOk f t = true) : (onlyB l f t).2 = 0 ∧ Mp (onlyB l f t).1 (k + 1) := by
  have hr' := hr
  simp only [rangeOk, decide_eq_true_eq] at hr'
  have hx : ∀ m, onlyM (hd m l) (hd m [⟨f, t, 0⟩]) = if f ≤ m ∧ m < t then hd m l else -1 := fun m => by
    rw [hd_one f t hr'.2.1]; unfold onlyM; split <;> simp
  obtain ⟨h1, h2, _⟩ := combM_ok (hol := onlyM) (s := l.map Blk.f ++ [f]) h.can (can_one hr) only_rng (by decide) (by have := h.len; simp; omega) fun n n0 n1 g0 g1 => by
    rw [hx] at g0 g1
    rw [hx] at g1
    by_cases e1 : n = f
    · simp [e1]
    · by_cases hin : f ≤ n ∧ n < t
      · rw [if_pos hin] at g0 g1; rw [if_pos (by omega)] at g1
        exact List.mem_append_left _ ((start0 h.can).2 ⟨g0, g1⟩)
      · rw [if_neg hin] at g0; omega
  unfold onlyB
  rw [if_neg (by simp [h.valid (by omega), hr])]
  exact ⟨h1, h2.can, by have h3 := h2.len; have := h.len; simp at h3; omega⟩
theorem swap_ok {l : List Blk} {k : Nat} (h : Mp l k) (hk : k ≤ 40) {f t : Int} (hf : 0 ≤ f ∧ f ≤ 7) (ht : 0 ≤ t ∧ t ≤ 7) : (swapB l f t).2 = 0 ∧ Mp (swapB l f t).1 k := by
  have hx : ∀ m, swapM f t (hd m l) (hd m []) = if hd m l = f then t else hd m l := fun m => rfl
  obtain ⟨h1, h2, _⟩ := combM_ok (hol := swapM f t) (s := l.map Blk.f) h.can (b := []) trivial (swap_rng ht) (by unfold swapM; rw [if_neg (by omega)]) (by have := h.len; simp; omega) fun n n0 n1 g0 g1 => by
    rw [hx] at g0 g1
    rw [hx] at g1
    refine (start0 h.can).2 ⟨?_, fun he => ?_⟩
    · split at g0 <;> omega
    · rw [he] at g1; exact g1 rfl
  unfold swapB
  rw [if_neg (by simp [h.valid (by omega), carOk_iff.2 hf, carOk_iff.2 ht])]
  exact ⟨h1, h2.can, by have h3 := h2.len; have := h.len; simp at h3; omega⟩
/-- A part of a carrier's numbers goes to another one. -/
theorem move_ok {l : List Blk} {k : Nat} (h : Mp l k) (hk : k + 2 ≤ 40) {f t b c : Int} (hr : rangeOk f t = true) (hb : 0 ≤ b ∧ b ≤ 7) (hc : 0 ≤ c ∧ c ≤ 7) :
    (onlyB l f t).2 = 0 ∧ (swapB (onlyB l f t).1 b c).2 = 0 ∧ (overlayB l (swapB (onlyB l f t).1 b c).1).2 = 0 ∧ Mp (overlayB l (swapB (onlyB l f t).1 b c).1).1 (k + 2) := by
  obtain ⟨o1, o2⟩ := only_ok h (by omega) hr
  obtain ⟨s1, s2⟩ := swap_ok o2 (by omega) hb hc
  refine ⟨o1, s1, ?_⟩
  have q1 := only_hd (l := l) (f := f) (t := t) (by simp [o1])
  obtain ⟨_, _, q2⟩ := swap_hd (l := (onlyB l f t).1) (f := b) (t := c) (by simp [s1])
  obtain ⟨p, hp⟩ : ∃ p, p = (swapB (onlyB l f t).1 b c).1 := ⟨_, rfl⟩
  rw [← hp] at q2 s2 ⊢
  have hx : ∀ m, 0 ≤ m → m < 100000000 → overM (hd m l) (hd m p) = if (f ≤ m ∧ m < t) ∧ hd m l = b then c else hd m l := fun m m0 m1 => by
    rw [q2 m m0 m1, q1 m m0 m1]
    have := hd_rng (m := m) h.can
    unfold overM
    by_cases hin : f ≤ m ∧ m < t
    · rw [if_pos hin]
      by_cases hb2 : hd m l = b
      · rw [if_pos hb2, if_neg (by omega), if_pos ⟨hin, hb2⟩]
      · rw [if_neg hb2, if_neg (show ¬((f ≤ m ∧ m < t) ∧ hd m l = b) from fun hh => hb2 hh.2)]
        split
        · rfl
        · rfl
    · rw [if_neg hin, if_neg (show ¬ (-1 : Int) = b by omega), if_pos rfl, if_neg (fun hh => hin hh.1)]
  have hm1 : ∀ m, m < 0 → overM (hd m l) (hd m p) = -1 := fun m hm => by rw [hd_lt h.can hm, hd_lt s2.can hm]; rfl
  obtain ⟨h1, h2, _⟩ := combM_ok (hol := overM) (s := l.map Blk.f ++ [f, t]) h.can s2.can over_rng (by decide) (by have := h.len; simp; omega) fun n n0 n1 g0 g1 => by
    rw [hx n n0 n1] at g0 g1
    by_cases e1 : n = f
    · simp [e1]
    · by_cases e2 : n = t
      · simp [e2]
      · refine List.mem_append_left _ ((start0 h.can).2 ⟨?_, fun he => ?_⟩)
        · split at g0
          · rename_i hh; omega
          · exact g0
        · rcases Int.lt_or_le (n - 1) 0 with hneg | hpos
          · rw [hm1 _ hneg] at g1
            rw [hd_lt h.can hneg] at he
            split at g1
            · rename_i hh; omega
            · omega
          · rw [hx (n - 1) hpos (by omega), he] at g1
            by_cases hin : f ≤ n ∧ n < t
            · have hin2 : f ≤ n - 1 ∧ n - 1 < t := by omega
              simp only [hin, hin2, true_and, and_self] at g1
              exact g1 rfl
            · have hin2 : ¬(f ≤ n - 1 ∧ n - 1 < t) := by omega
              simp only [hin, hin2, false_and, if_false] at g1
              exact g1 rfl
  unfold overlayB
  rw [if_neg (by simp [h.valid (by omega), s2.valid (by omega)])]
  exact ⟨h1, h2.can, by have h3 := h2.len; have := h.len; simp at h3; omega⟩
end Go.Proofs.Ytbnonekkjjcdgaa
/- A part that is split off and merges again: the law of MergeBack. -/
namespace Go.Proofs.Ytbnonekkjjcdgaa
open Go Go.RowKit Go.Shelf Hp
set_option maxRecDepth 10000
set_option maxHeartbeats 1000000
set_option linter.unusedVariables false
set_option linter.unusedSimpArgs false
attribute [local irreducible] WP WPs FnX IterX YdX RetP PanP Ch Back Join
theorem bits_in {s i : Int} (hs0 : 0 ≤ s) (hs1 : s ≤ 255) (hi0 : 0 ≤ i) (hi1 : i ≤ 7) : 0 ≤ bits64 .or s (1 * 2 ^ i.toNat) ∧ bits64 .or s (1 * 2 ^ i.toNat) ≤ 255 := by
  have : i = 0 ∨ i = 1 ∨ i = 2 ∨ i = 3 ∨ i = 4 ∨ i = 5 ∨ i = 6 ∨ i = 7 := by omega
  rcases this with rfl | rfl | rfl | rfl | rfl | rfl | rfl | rfl <;> exact ⟨(or_sub hs0 hs1 (by decide) (by decide)).1, (or_sub hs0 hs1 (by decide) (by decide)).2.1⟩
/-- What becomes of a set when a carrier comes, and goes again. -/
theorem bits_all2 : ∀ s : Fin 256, ∀ i j : Fin 8, bitM (bits64 .or (s.val : Int) (1 * 2 ^ i.val)) (j.val : Int) = (decide (i = j) || bitM (s.val : Int) (j.val : Int)) ∧
    (bitM (s.val : Int) (i.val : Int) = false → bits64 .andNot (bits64 .or (s.val : Int) (1 * 2 ^ i.val)) (1 * 2 ^ i.val) = (s.val : Int)) := by decide +kernel
theorem bit_or {s i j : Int} (s0 : 0 ≤ s) (s1 : s ≤ 255) (i0 : 0 ≤ i) (i1 : i ≤ 7) (j0 : 0 ≤ j) (j1 : j ≤ 7) : bitM (bits64 .or s (1 * 2 ^ i.toNat)) j = (decide (i = j) || bitM s j) := by
  have h := (bits_all2 ⟨s.toNat, by omega⟩ ⟨i.toNat, by omega⟩ ⟨j.toNat, by omega⟩).1
  dsimp only at h
  rw [Int.toNat_of_nonneg s0, Int.toNat_of_nonneg j0] at h
  rw [h]
  congr 1
  simp only [Fin.mk.injEq, decide_eq_decide]
  omega
theorem bit_back {s i : Int} (s0 : 0 ≤ s) (s1 : s ≤ 255) (i0 : 0 ≤ i) (i1 : i ≤ 7) (h : bitM s i = false) : bits64 .andNot (bits64 .or s (1 * 2 ^ i.toNat)) (1 * 2 ^ i.toNat) = s := by
  have h2 := (bits_all2 ⟨s.toNat, by omega⟩ ⟨i.toNat, by omega⟩ ⟨0, by omega⟩).2
  dsimp only at h2
  rw [Int.toNat_of_nonneg s0, Int.toNat_of_nonneg i0] at h2
  exact h2 h
theorem and_or_nat {x y z : Nat} (h : x &&& y = x) : (x ||| z) &&& (y ||| z) = x ||| z := by
  apply Nat.eq_of_testBit_eq
  intro i
  have := congrArg (fun n => n.testBit i) h
  simp only [Nat.testBit_and] at this
  simp only [Nat.testBit_and, Nat.testBit_or]
  revert this
  cases x.testBit i <;> cases y.testBit i <;> cases z.testBit i <;> simp
theorem sub_or {x y z : Int} (x0 : 0 ≤ x) (x1 : x ≤ 255) (y0 : 0 ≤ y) (y1 : y ≤ 255) (z0 : 0 ≤ z) (z1 : z ≤ 255) (h : bits64 .and x y = x) : bits64 .and (bits64 .or x z) (bits64 .or y z) = bits64 .or x z ∧ bits64 .and x (bits64 .or y z) = x := by
  obtain ⟨a, rfl⟩ := Int.eq_ofNat_of_zero_le x0
  obtain ⟨b, rfl⟩ := Int.eq_ofNat_of_zero_le y0
  obtain ⟨c, rfl⟩ := Int.eq_ofNat_of_zero_le z0
  have h1 := bits_or_nat (x := a) (y := c) (by omega) (by omega)
  have h2 := bits_or_nat (x := b) (y := c) (by omega) (by omega)
  rw [bits_and_nat (by omega) (by omega)] at h
  have h' : a &&& b = a := by omega
  rw [h1.1, h2.1, bits_and_nat h1.2 h2.2, bits_and_nat (by omega) h2.2]
  refine ⟨by rw [and_or_nat h'], ?_⟩
  congr 1
  apply Nat.eq_of_testBit_eq
  intro i
  have := congrArg (fun n => n.testBit i) h'
  simp only [Nat.testBit_and] at this
  simp only [Nat.testBit_and, Nat.testBit_or]
  revert this
  cases a.testBit i <;> cases b.testBit i <;> simp
/-- Who is alive has been alive. -/
theorem alive_ever {w : Wd} (h : VParts w) {i : Int} (i0 : 0 ≤ i) (i1 : i ≤ 7) (ha : hasC w.alive i = true) : hasC w.ever i = true := by
  have he := h.ever
  simp only [inM, Bool.and_eq_true, decide_eq_true_eq] at he
  obtain ⟨r0, r1⟩ := alive_range h
  have hs := h.sub
  obtain ⟨a, hae⟩ := Int.eq_ofNat_of_zero_le r0
  obtain ⟨e, hee⟩ := Int.eq_ofNat_of_zero_le he.1
  have key : ∀ a e : Fin 256, ∀ i : Fin 8, (a.val &&& e.val) = a.val → bitM (a.val : Int) (i.val : Int) = true → bitM (e.val : Int) (i.val : Int) = true := by
    intro a e i h1 h2
    have hb : ∀ s : Fin 256, ∀ i : Fin 8, bitM (s.val : Int) (i.val : Int) = s.val.testBit i.val := by decide +kernel
    rw [hb] at h2 ⊢
    have := congrArg (fun n => n.testBit i.val) h1
    simp only [Nat.testBit_and, h2, Bool.true_and] at this
    exact this
  rw [has_bit r0 r1 i0 i1] at ha
  rw [has_bit he.1 (by omega) i0 i1]
  rw [hae, hee, bits_and_nat (by omega) (by omega)] at hs
  have := key ⟨a, by omega⟩ ⟨e, by omega⟩ ⟨i.toNat, by omega⟩ (by dsimp only; omega)
  dsimp only at this
  rw [Int.toNat_of_nonneg i0] at this
  rw [hae] at ha
  rw [hee]; exact this ha
/-! ### levels -/
theorem lvs_in {w : Wd} : ∀ {k j : Nat}, j < k → hasC w.alive j = true → w.lev.getD j 0 ∈ lvsTo w k
  | 0, j, h, _ => by omega
  | k + 1, j, h, hb => by
    simp only [lvsTo]
    rcases Nat.lt_or_ge j k with hj | hj
    · have := lvs_in hj hb
      split
      · exact List.mem_append_left _ this
      · exact this
    · obtain rfl : j = k := by omega
      rw [if_pos hb]; simp
theorem fold_le {f : Int → Int → Int} (hf : ∀ x y, f x y ≤ x ∧ f x y ≤ y) : ∀ {r : List Int} {x : Int}, r.foldl f x ≤ x ∧ ∀ y ∈ r, r.foldl f x ≤ y
  | [], x => ⟨Int.le_refl _, by simp⟩
  | z :: r, x => by
    obtain ⟨h1, h2⟩ := fold_le hf (r := r) (x := f x z)
    have := hf x z
    refine ⟨by simp only [List.foldl_cons]; omega, fun y hy => ?_⟩
    simp only [List.foldl_cons]
    rcases List.mem_cons.1 hy with rfl | hy
    · omega
    · exact h2 y hy
theorem fold_ge {f : Int → Int → Int} (hf : ∀ x y, x ≤ f x y ∧ y ≤ f x y) : ∀ {r : List Int} {x : Int}, x ≤ r.foldl f x ∧ ∀ y ∈ r, y ≤ r.foldl f x
  | [], x => ⟨Int.le_refl _, by simp⟩
  | z :: r, x => by
    obtain ⟨h1, h2⟩ := fold_ge hf (r := r) (x := f x z)
    have := hf x z
    refine ⟨by simp only [List.foldl_cons]; omega, fun y hy => ?_⟩
    simp only [List.foldl_cons]
    rcases List.mem_cons.1 hy with rfl | hy
    · omega
    · exact h2 y hy
theorem min_le {l : List Int} : ∀ y ∈ l, minL l ≤ y ∧ y ≤ maxL l := by
  intro y hy
  cases l with
  | nil => cases hy
  | cons x r =>
    obtain ⟨h1, h2⟩ := fold_le (f := min) (fun x y => by omega) (r := r) (x := x)
    obtain ⟨h3, h4⟩ := fold_ge (f := max) (fun x y => by omega) (r := r) (x := x)
    simp only [minL, maxL]
    rcases List.mem_cons.1 hy with rfl | hy
    · exact ⟨h1, h3⟩
    · exact ⟨h2 y hy, h4 y hy⟩
/-- The levels of who is alive lie within one step. -/
theorem lev_near {w : Wd} (h : VParts w) {j : Nat} (hj : j < 8) (hb : hasC w.alive j = true) : minL (lvsTo w 8) ≤ w.lev.getD j 0 ∧ w.lev.getD j 0 ≤ minL (lvsTo w 8) + 1 := by
  have hm := lvs_in hj hb
  obtain ⟨h1, h2⟩ := min_le _ hm
  rcases h.lv with h0 | h0
  · have := List.length_pos_of_mem hm; omega
  · omega
end Go.Proofs.Ytbnonekkjjcdgaa
/- A part that is split off and merges again: the law of MergeBack. -/
namespace Go.Proofs.Ytbnonekkjjcdgaa
open Go Go.RowKit Go.Shelf Hp
set_option maxRecDepth 10000
set_option maxHeartbeats 1000000
set_option linter.unusedVariables false
set_option linter.unusedSimpArgs false
attribute [local irreducible] WP WPs FnX IterX YdX RetP PanP Ch Back Join
section
variable {w : Wd} {b c f t m : Int}
/-- The world behind the split. -/
def spl (w : Wd) (b c f t m : Int) : Wd :=
  { alive := bits64 .or w.alive (1 * 2 ^ c.toNat), ever := bits64 .or w.ever (1 * 2 ^ c.toNat), blocks := (overlayB w.blocks (swapB (onlyB w.blocks f t).1 b c).1).1,
    bal := (w.bal.set b.toNat (w.bal.getD b.toNat 0 - m)).set c.toNat m, lev := w.lev.set c.toNat (w.lev.getD b.toNat 0) }
theorem ever_rng (h : VParts w) : 0 ≤ w.ever ∧ w.ever ≤ 255 := by have := h.ever; simpa [inM] using this
theorem pow_rng {i : Int} (i0 : 0 ≤ i) (i1 : i ≤ 7) : 0 ≤ (1 : Int) * 2 ^ i.toNat ∧ (1 : Int) * 2 ^ i.toNat ≤ 255 := by
  have : i = 0 ∨ i = 1 ∨ i = 2 ∨ i = 3 ∨ i = 4 ∨ i = 5 ∨ i = 6 ∨ i = 7 := by omega
  rcases this with rfl | rfl | rfl | rfl | rfl | rfl | rfl | rfl <;> decide
theorem spl_hd (hv : VParts w) (h16 : w.blocks.length ≤ 16) (hb : 0 ≤ b ∧ b ≤ 7) (hc : 0 ≤ c ∧ c ≤ 7) (hr : rangeOk f t = true) (n : Int) (n0 : 0 ≤ n) (n1 : n < 100000000) :
    hd n (spl w b c f t m).blocks = if (f ≤ n ∧ n < t) ∧ hd n w.blocks = b then c else hd n w.blocks := by
  have hm : Mp w.blocks 16 := ⟨valid_can hv.blk, h16⟩
  obtain ⟨o1, s1, v1, _⟩ := move_ok hm (by omega) hr hb hc
  have q1 := only_hd (l := w.blocks) (f := f) (t := t) (by simp [o1])
  obtain ⟨_, _, q2⟩ := swap_hd (l := (onlyB w.blocks f t).1) (f := b) (t := c) (by simp [s1])
  have q3 := over_hd (a := w.blocks) (b := (swapB (onlyB w.blocks f t).1 b c).1) (by simp [v1])
  have hrg := hd_rng (m := n) hm.can
  simp only [spl]
  rw [q3 n n0 n1, q2 n n0 n1, q1 n n0 n1]
  by_cases hin : f ≤ n ∧ n < t
  · simp only [hin, and_self, if_true, true_and]
    by_cases hb2 : hd n w.blocks = b
    · rw [if_pos hb2, if_neg (by omega)]
    · simp only [hb2, if_false]
      split <;> rfl
  · simp only [hin, if_false, false_and]
    rw [if_neg (show ¬ (-1 : Int) = b by omega), if_pos rfl]
theorem spl_valid (hv : VParts w) (h16 : w.blocks.length ≤ 16) (hbd : ∀ j, -24000 ≤ w.bal.getD j 0 ∧ w.bal.getD j 0 ≤ 24000) (hb : 0 ≤ b ∧ b ≤ 7) (hc : 0 ≤ c ∧ c ≤ 7) (hr : rangeOk f t = true) (m0 : -1000 ≤ m) (m1 : m ≤ 1000)
    (hab : hasC w.alive b = true) (hec : hasC w.ever c = false) : VParts (spl w b c f t m) ∧ w.bal.getD c.toNat 0 = 0 ∧ w.lev.getD c.toNat 0 = 0 ∧ bitM w.alive c = false ∧ b ≠ c := by
  obtain ⟨a0, a1⟩ := alive_range hv
  obtain ⟨e0, e1⟩ := ever_rng hv
  obtain ⟨p0, p1⟩ := pow_rng hc.1 hc.2
  have hac : hasC w.alive c = false := by
    cases h : hasC w.alive c with
    | false => rfl
    | true => rw [alive_ever hv hc.1 hc.2 h] at hec; cases hec
  have hacb : bitM w.alive c = false := by rw [← has_bit a0 a1 hc.1 hc.2]; exact hac
  have hbc : b ≠ c := by rintro rfl; rw [hab] at hac; cases hac
  have okc := hv.ok c.toNat (by omega)
  simp only [okAt, Bool.and_eq_true, Bool.or_eq_true, decide_eq_true_eq, Int.toNat_of_nonneg hc.1, hac] at okc
  have okc2 : w.bal.getD c.toNat 0 = 0 ∧ w.lev.getD c.toNat 0 = 0 := by
    rcases okc.2 with h | h
    · cases h
    · exact h
  have hm : Mp w.blocks 16 := ⟨valid_can hv.blk, h16⟩
  obtain ⟨_, _, _, hmp⟩ := move_ok hm (by omega) hr hb hc
  obtain ⟨so1, so2⟩ := sub_or (z := 1 * 2 ^ c.toNat) a0 a1 e0 e1 p0 p1 hv.sub
  obtain ⟨na0, na1⟩ := bits_in a0 a1 hc.1 hc.2
  obtain ⟨ne0, ne1⟩ := bits_in e0 e1 hc.1 hc.2
  have hlb := hv.lb
  have hll := hv.ll
  have bit1 : ∀ j : Int, 0 ≤ j → j ≤ 7 → hasC (spl w b c f t m).alive j = (decide (c = j) || hasC w.alive j) := fun j j0 j1 => by
    simp only [spl]; rw [has_bit na0 na1 j0 j1, bit_or a0 a1 hc.1 hc.2 j0 j1, has_bit a0 a1 j0 j1]
  have balg : ∀ j : Nat, (spl w b c f t m).bal.getD j 0 = if c.toNat = j then m else if b.toNat = j then w.bal.getD b.toNat 0 - m else w.bal.getD j 0 := fun j => by
    simp only [spl]
    rw [getD_set, getD_set]
    simp only [List.length_set, hlb]
    by_cases h1 : c.toNat = j
    · rw [if_pos (by omega), if_pos h1]
    · rw [if_neg (by omega), if_neg h1]
      by_cases h2 : b.toNat = j
      · rw [if_pos (by omega), if_pos h2]
      · rw [if_neg (by omega), if_neg h2]
  have levg : ∀ j : Nat, (spl w b c f t m).lev.getD j 0 = if c.toNat = j then w.lev.getD b.toNat 0 else w.lev.getD j 0 := fun j => by
    simp only [spl]
    rw [getD_set, hll]
    by_cases h1 : c.toNat = j
    · rw [if_pos (by omega), if_pos h1]
    · rw [if_neg (by omega), if_neg h1]
  have okb := hv.ok b.toNat (by omega)
  simp only [okAt, Bool.and_eq_true, inM, decide_eq_true_eq] at okb
  refine ⟨⟨by simp only [inM, spl, Bool.and_eq_true]; exact ⟨decide_eq_true ne0, decide_eq_true ne1⟩, so1, na0, by simp [spl, hlb], by simp [spl, hll], hmp.valid (by omega), ?_, fun j hj => ?_, ?_, ?_⟩, okc2.1, okc2.2, hacb, hbc⟩
  · refine (dead_iff hmp.can).2 fun n n0 n1 hh => ?_
    have hd' := spl_hd (m := m) hv h16 hb hc hr n n0 n1
    have hrg : hd n (spl w b c f t m).blocks = -1 ∨ (0 ≤ hd n (spl w b c f t m).blocks ∧ hd n (spl w b c f t m).blocks ≤ 7) := hd_rng (m := n) hmp.can
    have hold := (dead_iff hm.can).1 hv.dead n n0 n1
    change hasC (spl w b c f t m).alive (hd n (spl w b c f t m).blocks) = true
    change 0 ≤ hd n (spl w b c f t m).blocks at hh
    rw [bit1 _ hh (by omega), hd']
    split
    · simp
    · rename_i hne; rw [hd', if_neg hne] at hh; simp [hold hh]
  · have hbj := hbd j
    have hbb := hbd b.toNat
    have okj := hv.ok j hj
    simp only [okAt, Bool.and_eq_true, Bool.or_eq_true, inM, decide_eq_true_eq] at okj
    simp only [okAt, moneyOk, inM, Bool.and_eq_true, Bool.or_eq_true, decide_eq_true_eq]
    rw [balg, levg, bit1 j (by omega) (by omega)]
    by_cases h1 : c.toNat = j
    · rw [if_pos h1, if_pos h1]
      refine ⟨⟨by omega, okb.1.2⟩, .inl ?_⟩
      have : c = (j : Int) := by omega
      simp [this]
    · rw [if_neg h1, if_neg h1]
      by_cases h2 : b.toNat = j
      · rw [if_pos h2]
        refine ⟨⟨by omega, okj.1.2⟩, .inl ?_⟩
        have : b = (j : Int) := by omega
        rw [← this, hab]; simp
      · rw [if_neg h2]
        refine ⟨⟨by omega, okj.1.2⟩, ?_⟩
        rcases okj.2 with h | h
        · exact .inl (by rw [h]; simp)
        · exact .inr h
  · rw [sumTo_sumN]
    have hs := hv.sum
    rw [sumTo_sumN] at hs
    simp only [spl]
    rw [sumN_set (by simp [hlb]; omega), sumN_set (by omega), hs, if_pos (by omega), if_pos (by omega), getD_set, if_neg (by omega), okc2.1]; omega
  · refine spread_ok (lo := minL (lvsTo w 8)) fun y hy => ?_
    obtain ⟨j, hj, h1, rfl⟩ := lvs_mem hy
    rw [bit1 j (by omega) (by omega)] at h1
    rw [levg]
    by_cases h2 : c.toNat = j
    · rw [if_pos h2]
      exact lev_near hv (by omega) (by rw [Int.toNat_of_nonneg hb.1]; exact hab)
    · rw [if_neg h2]
      have : ¬ c = (j : Int) := by omega
      simp only [this, decide_false, Bool.false_or] at h1
      exact lev_near hv hj h1
end
theorem step_of {w w' : Wd} {e : Ev} (hv : VParts w) (ho : okE w e = true) (hd : doW w e = some w') (hv' : VParts w') : stepM w e = (w', 0) := by
  have hs : stepW w e = some w' := by simp only [stepW, ho, hd, (valid_iff w').2 hv']; simp
  simp only [stepM, (valid_iff w).2 hv, if_true, hs]
theorem step_end (w : Wd) (e : Ev) : (stepM w e).2 = 0 ∨ (stepM w e).2 = 420 := by
  unfold stepM
  split
  · split
    · exact .inl rfl
    · exact .inr rfl
  · exact .inr rfl
theorem back_law : BackLaw := by
  intro w b c f t m hv h16 hbd b0 b7 c0 c7 hr m0 m1
  have hb : 0 ≤ b ∧ b ≤ 7 := ⟨b0, b7⟩
  have hc : 0 ≤ c ∧ c ≤ 7 := ⟨c0, c7⟩
  obtain ⟨a0, a1⟩ := alive_range hv
  obtain ⟨e0, e1⟩ := ever_rng hv
  have hm : Mp w.blocks 16 := ⟨valid_can hv.blk, h16⟩
  obtain ⟨o1, s1, v1, hmp⟩ := move_ok hm (by omega) hr hb hc
  have hr' := hr
  simp only [rangeOk, decide_eq_true_eq] at hr'
  have cb := carOk_iff.2 hb
  have cc := carOk_iff.2 hc
  -- the split is possible just if
  have yes : hasC w.alive b = true → hasC w.ever c = false → stepM w (splitE b c f t m) = (spl w b c f t m, 0) := fun h1 h2 => by
    refine step_of hv ?_ ?_ (spl_valid hv h16 hbd hb hc hr m0 m1 h1 h2).1
    · simp [okE, splitE, inM, cb, cc, h1]; decide
    · have hfull : fullE (splitE b c f t m) = true := by
        show (decide (0 ≤ f) && decide (f < t) && decide (t ≤ 100000000) && (decide (-1000000000000 ≤ m) && decide (m ≤ 1000000000000))) = true
        simp only [Bool.and_eq_true, decide_eq_true_eq]; omega
      rw [doW2 rfl]
      unfold splitW
      rw [if_neg (by rw [hfull]; simp [splitE, h2]), if_neg (by simp [splitE, o1]), if_neg (by simp [splitE, s1]), if_neg (by simp [splitE, v1])]
      rfl
  have no : (stepM w (splitE b c f t m)).2 = 0 → hasC w.alive b = true ∧ hasC w.ever c = false := fun h => by
    have h1 : okE w (splitE b c f t m) = true ∧ doW w (splitE b c f t m) ≠ none := by
      unfold stepM at h
      split at h
      · split at h
        · rename_i w' hs
          unfold stepW at hs
          split at hs
          · cases hs
          · rename_i ho
            refine ⟨by simpa using ho, fun hn => ?_⟩
            rw [hn] at hs; cases hs
        · cases h
      · cases h
    obtain ⟨h2, h3⟩ := h1
    rw [doW2 rfl] at h3
    unfold splitW at h3
    have h4 : hasC w.alive b = true := by simp only [okE, splitE, Bool.and_eq_true] at h2; exact h2.2
    refine ⟨h4, ?_⟩
    cases h5 : hasC w.ever c with
    | false => rfl
    | true =>
      rw [if_pos (by simp [splitE, h5])] at h3
      exact absurd rfl h3
  constructor
  · intro h
    refine ⟨(step_end w _).resolve_left h, ?_⟩
    rw [← has_bit a0 a1 hb.1 hb.2, ← has_bit e0 e1 hc.1 hc.2]
    cases h1 : hasC w.alive b with
    | false => exact .inl rfl
    | true =>
      cases h2 : hasC w.ever c with
      | true => exact .inr rfl
      | false => rw [yes h1 h2] at h; exact absurd rfl h
  · intro h
    obtain ⟨hab, hec⟩ := no h
    rw [yes hab hec]
    dsimp only
    obtain ⟨hv1, balc, levc, bitc, hbc⟩ := spl_valid (m := m) hv h16 hbd hb hc hr m0 m1 hab hec
    have hd1 := spl_hd (m := m) hv h16 hb hc hr
    obtain ⟨na0, na1⟩ := alive_range hv1
    obtain ⟨ne0, ne1⟩ := ever_rng hv1
    have hlb := hv.lb
    have hll := hv.ll
    -- the carrier c held nothing
    have notc : ∀ n, 0 ≤ n → n < 100000000 → hd n w.blocks ≠ c := fun n n0 n1 he => by
      have := (dead_iff hm.can).1 hv.dead n n0 n1 (by omega)
      rw [he, has_bit a0 a1 c0 c7, bitc] at this; cases this
    -- the second step
    have hm1 : Mp (spl w b c f t m).blocks 18 := hmp
    obtain ⟨t1, t2⟩ := swap_ok hm1 (by omega) hc hb
    obtain ⟨_, _, t3⟩ := swap_hd (l := (spl w b c f t m).blocks) (f := c) (t := b) (by simp [t1])
    have alc : hasC (spl w b c f t m).alive c = true := by
      rw [has_bit na0 na1 c0 c7]; simp only [spl]; rw [bit_or a0 a1 c0 c7 c0 c7]; simp
    have alb : hasC (spl w b c f t m).alive b = true := by
      rw [has_bit na0 na1 b0 b7]; simp only [spl]; rw [bit_or a0 a1 c0 c7 b0 b7, ← has_bit a0 a1 b0 b7, hab]; simp
    have hblk : (swapB (spl w b c f t m).blocks c b).1 = w.blocks := by
      refine can_eq t2.can hm.can fun n n0 n1 => ?_
      rw [t3 n n0 n1, hd1 n n0 n1]
      have := notc n n0 n1
      by_cases hin : (f ≤ n ∧ n < t) ∧ hd n w.blocks = b
      · rw [if_pos hin, if_pos rfl]; exact hin.2.symm
      · rw [if_neg hin, if_neg this]
    have balg : ∀ j : Nat, (spl w b c f t m).bal.getD j 0 = if c.toNat = j then m else if b.toNat = j then w.bal.getD b.toNat 0 - m else w.bal.getD j 0 := fun j => by
      simp only [spl]
      rw [getD_set, getD_set]
      simp only [List.length_set, hlb]
      by_cases h1 : c.toNat = j
      · rw [if_pos (by omega), if_pos h1]
      · rw [if_neg (by omega), if_neg h1]
        by_cases h2 : b.toNat = j
        · rw [if_pos (by omega), if_pos h2]
        · rw [if_neg (by omega), if_neg h2]
    have hbal : ((spl w b c f t m).bal.set b.toNat ((spl w b c f t m).bal.getD b.toNat 0 + (spl w b c f t m).bal.getD c.toNat 0)).set c.toNat 0 = w.bal := by
      refine ext_getD (d := 0) (by simp [spl]) fun j hj => ?_
      rw [getD_set, getD_set, balg, balg, balg]
      simp only [List.length_set, spl, hlb]
      by_cases h1 : c.toNat = j
      · rw [if_pos (by omega), ← h1, balc]
      · rw [if_neg (by omega)]
        by_cases h2 : b.toNat = j
        · rw [if_pos (by omega), if_neg (by omega)]; simp only [if_true]; rw [h2]; omega
        · rw [if_neg (by omega), if_neg h1, if_neg h2]
    have hlev : (spl w b c f t m).lev.set c.toNat 0 = w.lev := by
      refine ext_getD (d := 0) (by simp [spl]) fun j hj => ?_
      simp only [spl]
      rw [getD_set, getD_set]
      simp only [List.length_set, hll]
      by_cases h1 : c.toNat = j
      · rw [if_pos (by omega), ← h1, levc]
      · rw [if_neg (by omega), if_neg (by omega)]
    have hal : bits64 .andNot (spl w b c f t m).alive (1 * 2 ^ c.toNat) = w.alive := by
      simp only [spl]; exact bit_back a0 a1 c0 c7 bitc
    have hdo : doW (spl w b c f t m) (backE b c) = some { w with ever := bits64 .or w.ever (1 * 2 ^ c.toNat) } := by
      rw [doW1 rfl]
      unfold mergeW
      rw [if_neg (by simp [bareE, backE, alb]; exact decide_eq_true (Ne.symm hbc)), if_neg (by simp [backE, t1])]
      simp only [backE, endW, Option.some.injEq]
      rw [hblk, hbal, hlev, hal]
      rfl
    have hv2 : VParts { w with ever := bits64 .or w.ever (1 * 2 ^ c.toNat) } := by
      obtain ⟨p0, p1⟩ := pow_rng c0 c7
      exact ⟨by simp only [inM, Bool.and_eq_true, decide_eq_true_eq]; exact bits_in e0 e1 c0 c7, (sub_or a0 a1 e0 e1 p0 p1 hv.sub).2, hv.pos, hv.lb, hv.ll, hv.blk, hv.dead, hv.ok, by have := hv.sum; rw [sumTo_sumN] at this ⊢; exact this, by
        have hl : ∀ k, lvsTo { w with ever := bits64 .or w.ever (1 * 2 ^ c.toNat) } k = lvsTo w k := fun k => by
          induction k with
          | zero => rfl
          | succ k ih => simp only [lvsTo, ih]
        rw [hl]; exact hv.lv⟩
    have hst : stepM (spl w b c f t m) (backE b c) = ({ w with ever := bits64 .or w.ever (1 * 2 ^ c.toNat) }, 0) :=
      step_of hv1 (by simp [okE, backE, inM, cb, cc, alc]; decide) hdo hv2
    rw [hst]
    dsimp only
    obtain ⟨u1, u2⟩ := only_ok hm (by omega) hr
    obtain ⟨u3, u4⟩ := only_ok hm1 (by omega) hr
    have q1 := only_hd (l := w.blocks) (f := f) (t := t) (by simp [u1])
    have q2 := only_hd (l := (spl w b c f t m).blocks) (f := f) (t := t) (by simp [u3])
    refine ⟨rfl, rfl, u1, u3, by simp [eqW], ?_, ?_, ?_⟩
    · unfold countB
      rw [if_pos (u4.valid (by omega)), if_pos (u2.valid (by omega))]
      refine count_eq u4.can u2.can c0 b0 fun n n0 n1 => ?_
      have := notc n n0 n1
      rw [q1 n n0 n1, q2 n n0 n1, hd1 n n0 n1]
      by_cases hin : f ≤ n ∧ n < t
      · simp only [hin, and_self, true_and, if_true]
        by_cases h2 : hd n w.blocks = b
        · simp [h2]
        · simp [h2, this]
      · simp only [hin, if_false]; omega
    · unfold countB
      rw [if_pos (hm1.valid (by omega)), if_pos (u2.valid (by omega))]
      refine count_eq hm1.can u2.can c0 b0 fun n n0 n1 => ?_
      have := notc n n0 n1
      rw [q1 n n0 n1, hd1 n n0 n1]
      by_cases hin : f ≤ n ∧ n < t
      · simp only [hin, and_self, true_and, if_true]
        by_cases h2 : hd n w.blocks = b
        · simp [h2]
        · simp [h2, this]
      · simp only [hin, false_and, if_false]
        constructor
        · intro h; exact absurd h this
        · intro h; omega
    · unfold countB
      rw [if_pos (u4.valid (by omega))]
      refine count_zero u4.can b0 fun n n0 n1 => ?_
      rw [q2 n n0 n1, hd1 n n0 n1]
      by_cases hin : f ≤ n ∧ n < t
      · simp only [hin, and_self, true_and, if_true]
        by_cases h2 : hd n w.blocks = b
        · rw [if_pos h2]; exact fun h => hbc h.symm
        · rw [if_neg h2]; exact h2
      · simp only [hin, if_false]; omega
end Go.Proofs.Ytbnonekkjjcdgaa
