/- The walks of the laws' own small functions, and of Run with events of one's own. -/
import Derived.Test.YtbnonekkjjcdgaaRefD
namespace Go.Proofs.Ytbnonekkjjcdgaa
open Go Go.RowKit Go.Shelf Hp
set_option maxRecDepth 10000
set_option maxHeartbeats 1000000
set_option linter.unusedVariables false
set_option linter.unusedSimpArgs false
attribute [local irreducible] WP WPs FnX IterX YdX RetP PanP Ch Back Join

theorem block1_spec (f t c : Int) : Fn1 Try.prog 21 [I f, I t, I c] (.agg [I f, I t, I c]) := by
  refine fnE_intro (N := 12) Try.func21 rfl rfl rfl ?_
  intro X
  refine h_seq ?_
  refine h_region ?_
  refine o_alloc (by decide) fun x1 => ?_
  refine o_nil ?_
  refine h_seq ?_
  refine h_region ?_
  refine o_move rfl (by decide) ?_
  refine o_move rfl (by decide) ?_
  refine o_build rfl rfl (by decide) ?_
  refine o_move rfl (by decide) ?_
  refine o_build rfl rfl (by decide) ?_
  refine o_store 0 rfl rfl rfl rfl rfl rfl ?_
  refine o_nil ?_
  refine h_ret ?_
  exact retG [] (.cons (resC 0 rfl rfl rfl) .nil) (List.nil_sublist _) ⟨_, rfl, rfl, rfl⟩

def exW : Wd := ⟨6, 6, [⟨100, 200, 1⟩, ⟨200, 300, 2⟩], [0, 50, -50, 0, 0, 0, 0, 0], [0, 0, 0, 0, 0, 0, 0, 0]⟩
def exE : List Ev := [⟨2, 10, 1, 3, 0, 150, 180, 20⟩, ⟨1, 20, 1, 2, 0, 0, 0, 0⟩]

theorem example_spec : Fn1 Try.prog 16 [] (encW exW true true true) := by
  refine fnE_intro (N := 7) Try.func16 rfl rfl rfl ?_
  intro X
  refine h_seq ?_
  refine h_region ?_
  refine o_alloc (by decide) fun x2 => ?_
  refine o_nil ?_
  refine h_seq ?_
  refine h_draw _ (List.nil_sublist _) [(0, .flo), (1, .flo), (2, .flo), (3, .flo), (4, .flo), (5, .flo), (6, .sto)] mixed (by kernel_rfl) ?_
  refine c_flo rfl rfl (fun Xq rq Qq dq kq => o_call1 rfl rfl EntC.out (by decide) (block1_spec _ _ _) kq) ?_
  refine c_flo rfl rfl (fun Xq rq Qq dq kq => o_call1 rfl rfl EntC.out (by decide) (block1_spec _ _ _) kq) ?_
  refine c_flo rfl rfl (fun Xq rq Qq dq kq => o_buildSlicep rfl (by rfl) (by rfl) (by rfl) (by rfl) (by decide) kq) ?_
  refine c_flo rfl rfl (fun Xq rq Qq dq kq => o_buildSlicep rfl (by rfl) (by rfl) (by rfl) (by rfl) (by decide) kq) ?_
  refine c_flo rfl rfl (fun Xq rq Qq dq kq => o_makeSlicep (n := 8) rfl (by decide) kq) ?_
  refine c_flo rfl rfl (fun Xq rq Qq dq kq => o_build rfl rfl (by decide) kq) ?_
  refine c_sto (List.nil_sublist _) rfl rfl (fun Xq rq Qq dq kq => o_store 0 rfl rfl rfl rfl rfl rfl kq) ?_
  refine c_nil ?_
  refine h_ret ?_
  exact retG [] (.cons (resC 0 rfl rfl rfl) .nil) (List.nil_sublist _) ⟨_, rfl, rfl, rfl⟩

theorem events_spec : Fn1 Try.prog 17 [] (V (exE.map encV) true) := by
  refine fnE_intro (N := 5) Try.func17 rfl rfl rfl ?_
  intro X
  refine h_seq ?_
  refine h_region ?_
  refine o_assign rfl (by decide) ?_
  refine o_nil ?_
  refine h_seq ?_
  refine h_region ?_
  refine o_build rfl rfl (by decide) ?_
  refine o_build rfl rfl (by decide) ?_
  refine o_build rfl rfl (by decide) ?_
  refine o_buildSlicep rfl (by rfl) (by rfl) (by rfl) (by rfl) (by decide) ?_
  refine o_assign rfl (by decide) ?_
  refine o_nil ?_
  refine h_ret ?_
  exact ret1' rfl rfl

theorem succeeds_spec (n t k : Int) : Fn1 Try.prog 23 [I n, I t, I k] (B (decide ((succM exW exE 1 n t).2 = 0) && decide ((succM exW exE 1 n t).1 = k))) := by
  refine fnE_intro (N := 24) Try.func23 rfl rfl rfl ?_
  intro X
  refine h_seq ?_
  refine h_region ?_
  refine o_assign rfl (by decide) ?_
  refine o_nil ?_
  refine h_seq ?_
  refine h_region ?_
  refine o_call1 rfl rfl EntC.out (by decide) example_spec ?_
  refine o_call1 rfl rfl EntC.out (by decide) events_spec ?_
  refine o_move rfl (by decide) ?_
  refine o_move rfl (by decide) ?_
  refine o_call1 rfl rfl EntC.out (by decide) (succ_spec exW exE (by decide) true true true true 1 _ _) ?_
  refine o_move rfl (by decide) ?_
  refine o_extract rfl rfl (by decide) ?_
  refine o_extract rfl rfl (by decide) ?_
  refine o_assign rfl (by decide) ?_
  refine o_assign rfl (by decide) ?_
  refine o_nil ?_
  refine h_seq ?_
  refine h_region ?_
  refine o_move rfl (by decide) ?_
  refine o_cmp rfl rfl rfl (by decide) ?_
  refine o_move rfl (by decide) ?_
  refine o_guard rfl rfl (by decide) (fun g4 => ?_) (fun g4 => ?_)
  ·
    have g4 : _ = true := g4
    refine o_move rfl (by decide) ?_
    refine o_guardy rfl rfl g4 (by decide) ?_
    refine o_move rfl (by decide) ?_
    refine o_guardy rfl rfl g4 (by decide) ?_
    refine o_cmp rfl rfl rfl (by decide) ?_
    refine o_pickt rfl g4 rfl (by decide) ?_
    refine o_assign rfl (by decide) ?_
    refine o_nil ?_
    refine h_ret ?_
    exact ret1' rfl (B_eq (by simp_all))
  ·
    have g4 : _ = false := g4
    refine o_guardn rfl rfl g4 (by decide) ?_
    refine o_guardn rfl rfl g4 (by decide) ?_
    refine o_pickf rfl g4 rfl (by decide) ?_
    refine o_assign rfl (by decide) ?_
    refine o_nil ?_
    refine h_ret ?_
    exact ret1' rfl (B_eq (by simp_all))

def usedM (e : Ev) : List Int := if e.kind = 3 then [e.a, e.b, e.c] else [e.a, e.b]
theorem usedM_len (e : Ev) : (usedM e).length ≤ 3 := by unfold usedM; split <;> simp
def hitI (d e : Ev) (k j : Nat) : Bool := decide ((usedM d).getD k 0 = (usedM e).getD j 0)
def hitO (d e : Ev) (k : Nat) : Bool := (List.range (usedM e).length).any (hitI d e k)
def commonM (d e : Ev) : Bool := (List.range (usedM d).length).any (hitO d e)

theorem used_spec (e : Ev) : Fn1 Try.prog 29 [encE e] (V ((usedM e).map encI) true) := by
  refine fnE_intro (N := 18) Try.func29 rfl rfl rfl ?_
  intro X
  refine h_seq ?_
  refine h_region ?_
  refine o_box rfl rfl (by decide) fun x6 => ?_
  refine o_assign rfl (by decide) ?_
  refine o_nil ?_
  refine h_seq ?_
  refine h_seq ?_
  refine h_region ?_
  refine o_faddr rfl rfl (by decide) (by decide) ?_
  refine o_load 0 rfl rfl rfl rfl (by decide) ?_
  refine o_cmp rfl rfl rfl (by decide) ?_
  refine o_nil ?_
  refine h_cond rfl (fun c8 => ?_) (fun c8 => ?_)
  ·
    refine h_seq ?_
    refine h_region ?_
    refine o_faddr rfl rfl (by decide) (by decide) ?_
    refine o_load 0 rfl rfl rfl rfl (by decide) ?_
    refine o_faddr rfl rfl (by decide) (by decide) ?_
    refine o_load 0 rfl rfl rfl rfl (by decide) ?_
    refine o_faddr rfl rfl (by decide) (by decide) ?_
    refine o_load 0 rfl rfl rfl rfl (by decide) ?_
    refine o_buildSlicep rfl (by rfl) (by rfl) (by rfl) (by rfl) (by decide) ?_
    refine o_assign rfl (by decide) ?_
    refine o_nil ?_
    refine h_ret ?_
    have hq : usedM e = _ := (by unfold usedM; rw [if_pos (by simp_all)])
    exact ret1' rfl (by rw [hq]; rfl)
  ·
    refine h_skip ?_
    refine h_seq ?_
    refine h_region ?_
    refine o_faddr rfl rfl (by decide) (by decide) ?_
    refine o_load 0 rfl rfl rfl rfl (by decide) ?_
    refine o_faddr rfl rfl (by decide) (by decide) ?_
    refine o_load 0 rfl rfl rfl rfl (by decide) ?_
    refine o_buildSlicep rfl (by rfl) (by rfl) (by rfl) (by rfl) (by decide) ?_
    refine o_assign rfl (by decide) ?_
    refine o_nil ?_
    refine h_ret ?_
    have hq : usedM e = _ := (by unfold usedM; rw [if_neg (by simp_all)])
    exact ret1' rfl (by rw [hq]; rfl)

theorem common_spec (d e : Ev) : Fn1 Try.prog 8 [encE d, encE e] (B (commonM d e)) := by
  refine fnE_intro (N := 28) Try.func8 rfl rfl rfl ?_
  intro X
  refine h_seq ?_
  refine h_region ?_
  refine o_box rfl rfl (by decide) fun x9 => ?_
  refine o_box rfl rfl (by decide) fun x10 => ?_
  refine o_assign rfl (by decide) ?_
  refine o_nil ?_
  refine h_seq ?_
  refine h_seq ?_
  refine h_region ?_
  refine o_load 1 rfl rfl rfl rfl (by decide) ?_
  refine o_call1 rfl rfl EntC.out (by decide) (used_spec d) ?_
  refine o_len rfl (by decide) ?_
  refine o_move rfl (by decide) ?_
  refine o_nil ?_
  refine h_block ?_
  have hul := usedM_len d
  have hul2 := usedM_len e
  refine h_famS (ι := {k : Nat // k ≤ (usedM d).length ∧ ∀ j, j < k → hitO d e j = false}) (fun i => [(3, .ptr x10 0), (10, V ((usedM d).map encI) true), (11, I (((usedM d).map encI).length : Nat)), (12, I (i.1 : Nat))]) (fun i => (x10, .box 36 [I e.kind, I e.t, I e.a, I e.b, I e.c, I e.f, I e.to, I e.m]) :: []) (fun i => (usedM d).length - i.1) ⟨0, Nat.zero_le _, fun j hj => absurd hj (Nat.not_lt_zero j)⟩ (.cons_cons _ (.cons _ (.refl _))) (subT.cons rfl (subT.cons rfl (subT.cons rfl (subT.cons rfl subT.nil)))) ?_
  rintro ⟨k, hk, hok⟩
  dsimp only
  by_cases hlt : k < (usedM d).length
  ·
    refine h_seq ?_
    refine h_region ?_
    refine o_cmp rfl rfl rfl (by decide) ?_
    refine o_nil ?_
    refine h_seq ?_
    refine h_condt rfl (by simp; omega) ?_
    refine h_skip ?_
    refine h_seq ?_
    refine h_block ?_
    refine h_seq ?_
    refine h_region ?_
    refine o_idxv rfl rfl (by omega) (eltIn (by simpa using hlt)) rfl (by decide) ?_
    refine o_loadv rfl rfl (by decide) ?_
    refine o_assign rfl (by decide) ?_
    refine o_nil ?_
    refine h_seq ?_
    refine h_region ?_
    refine o_load 0 rfl rfl rfl rfl (by decide) ?_
    refine o_call1 rfl rfl EntC.out (by decide) (used_spec e) ?_
    refine o_len rfl (by decide) ?_
    refine o_move rfl (by decide) ?_
    refine o_nil ?_
    refine h_block ?_
    refine h_famS (ι := {q : Nat // q ≤ (usedM e).length ∧ ∀ j, j < q → hitI d e k j = false}) (fun i => [(3, .ptr x10 0), (10, V ((usedM d).map encI) true), (11, I (((usedM d).map encI).length : Nat)), (12, I (k : Nat)), (6, I ((usedM d).getD ((k : Nat) : Int).toNat 0)), (17, V ((usedM e).map encI) true), (18, I (((usedM e).map encI).length : Nat)), (19, I (i.1 : Nat))]) (fun i => (x10, .box 36 [I e.kind, I e.t, I e.a, I e.b, I e.c, I e.f, I e.to, I e.m]) :: []) (fun i => (usedM e).length - i.1) ⟨0, Nat.zero_le _, fun j hj => absurd hj (Nat.not_lt_zero j)⟩ (.cons_cons _ (.refl _)) (subT.cons rfl (subT.cons rfl (subT.cons rfl (subT.cons rfl (subT.cons rfl (subT.cons rfl (subT.cons rfl (subT.cons rfl subT.nil)))))))) ?_
    rintro ⟨q, hq, hok2⟩
    dsimp only
    by_cases hlt2 : q < (usedM e).length
    ·
      refine h_seq ?_
      refine h_region ?_
      refine o_cmp rfl rfl rfl (by decide) ?_
      refine o_nil ?_
      refine h_seq ?_
      refine h_condt rfl (by simp; omega) ?_
      refine h_skip ?_
      refine h_seq ?_
      refine h_block ?_
      refine h_seq ?_
      refine h_region ?_
      refine o_idxv rfl rfl (by omega) (eltIn (by simpa using hlt2)) rfl (by decide) ?_
      refine o_loadv rfl rfl (by decide) ?_
      refine o_assign rfl (by decide) ?_
      refine o_nil ?_
      refine h_seq ?_
      refine h_region ?_
      refine o_move rfl (by decide) ?_
      refine o_move rfl (by decide) ?_
      refine o_cmp rfl rfl rfl (by decide) ?_
      refine o_nil ?_
      refine h_cond rfl (fun c14 => ?_) (fun c14 => ?_)
      ·
        refine h_seq ?_
        refine h_region ?_
        refine o_assign rfl (by decide) ?_
        refine o_nil ?_
        refine h_ret ?_
        refine ret1' rfl (B_eq ?_)
        have hb2 : hitI d e k q = true := by simp only [hitI]; simpa using c14
        have hbo : hitO d e k = true := List.any_eq_true.2 ⟨q, List.mem_range.2 hlt2, hb2⟩
        exact (List.any_eq_true.2 ⟨k, List.mem_range.2 hlt, hbo⟩).symm
      ·
        refine h_skip ?_
        refine h_region ?_
        refine o_add rfl rfl (by unfold in64; (try dsimp only); omega) (by decide) ?_
        refine o_move rfl (by decide) ?_
        refine o_nil ?_
        have hb2 : hitI d e k q = false := by simp only [hitI]; simpa using c14
        refine back rfl ⟨q + 1, hlt2, fun j hj => (by rcases Nat.lt_succ_iff_lt_or_eq.1 hj with h1 | h1; exact hok2 j h1; subst h1; exact hb2)⟩ (by dsimp only; omega) (.cons_cons _ (.refl _)) (subT.cons rfl (subT.cons rfl (subT.cons rfl (subT.cons rfl (subT.cons rfl (subT.cons rfl (subT.cons rfl (subT.cons rfl subT.nil))))))))
    ·
      obtain rfl : q = (usedM e).length := by omega
      have hbad : hitO d e k = false := by simp only [hitO]; rw [List.any_eq_false]; intro j hj; rw [hok2 j (List.mem_range.1 hj)]; simp
      refine h_seq ?_
      refine h_region ?_
      refine o_cmp rfl rfl rfl (by decide) ?_
      refine o_nil ?_
      refine h_seq ?_
      refine h_condf rfl (by simp <;> omega) ?_
      refine h_exit ?_
      refine h_region ?_
      refine o_add rfl rfl (by unfold in64; (try dsimp only); omega) (by decide) ?_
      refine o_move rfl (by decide) ?_
      refine o_nil ?_
      refine back rfl ⟨k + 1, hlt, fun j hj => (by rcases Nat.lt_succ_iff_lt_or_eq.1 hj with h1 | h1; exact hok j h1; subst h1; exact hbad)⟩ (by dsimp only; omega) (.cons_cons _ (.refl _)) (subT.cons rfl (subT.cons rfl (subT.cons rfl (subT.cons rfl subT.nil))))
  ·
    obtain rfl : k = (usedM d).length := by omega
    refine h_seq ?_
    refine h_region ?_
    refine o_cmp rfl rfl rfl (by decide) ?_
    refine o_nil ?_
    refine h_seq ?_
    refine h_condf rfl (by simp <;> omega) ?_
    refine h_exit ?_
    refine h_seq ?_
    refine h_region ?_
    refine o_assign rfl (by decide) ?_
    refine o_nil ?_
    refine h_ret ?_
    refine ret1' rfl (B_eq ?_)
    symm; simp only [commonM]; rw [List.any_eq_false]; intro j hj; rw [hok j (List.mem_range.1 hj)]; simp

theorem made_spec (a0 a1 a2 : Int) (ha0 : in64 a0) (ha1 : in64 a1) (ha2 : in64 a2) (x y : List T3) (hxl : x.length ≤ 1000000000) (hyl : y.length ≤ 1000000000) (hx : ok3 x) (hy : ok3 y) (fx fy : Bool) : Fc Try.prog 6 [.agg [I a0, I a1, I a2], V (x.map enc3) fx, V (y.map enc3) fy] [] (fun r h' => (∃ (ds : List Dbt) (f1 f2 f3 f4 : Bool), r = .tup [encW (madeW a0 a1 x a2 ds) f1 f2 f3, V (ds.map encD) f4] ∧ ds.length ≤ 12 ∧ ∀ d ∈ ds, goodD d) ∧ h' = []) := by
  refine fnE_intro (N := 25) Try.func6 rfl rfl rfl ?_
  intro X
  refine h_seq ?_
  refine h_region ?_
  refine o_box rfl rfl (by decide) fun x17 => ?_
  refine o_alloc (by decide) fun x18 => ?_
  refine o_assign rfl (by decide) ?_
  refine o_nil ?_
  refine h_seq ?_
  refine h_region ?_
  refine o_idxa rfl rfl (by decide) (by decide) (by decide) ?_
  refine o_load 1 rfl rfl rfl rfl (by decide) ?_
  refine o_call1 rfl rfl EntC.out (by decide) (pickL_spec _ _ ha0 (by decide)) ?_
  refine o_add rfl rfl (by have := pickM_range (c := a0) (n := 255) (by omega); unfold in64; (try dsimp only); omega) (by decide) ?_
  refine o_move rfl (by decide) ?_
  refine o_callN rfl rfl EntC.out (by decide) (owe_spec _ y hyl hy fy) fun v h' hr => ?_
  obtain ⟨⟨ds, fd, rfl, hdl, hg⟩, rfl⟩ := hr
  refine o_assign rfl (by decide) ?_
  refine o_nil ?_
  refine h_seq ?_
  refine h_region ?_
  refine o_idxa rfl rfl (by decide) (by decide) (by decide) ?_
  refine o_load 1 rfl rfl rfl rfl (by decide) ?_
  refine o_idxa rfl rfl (by decide) (by decide) (by decide) ?_
  refine o_load 1 rfl rfl rfl rfl (by decide) ?_
  refine o_move rfl (by decide) ?_
  refine o_idxa rfl rfl (by decide) (by decide) (by decide) ?_
  refine o_load 1 rfl rfl rfl rfl (by decide) ?_
  refine o_move rfl (by decide) ?_
  refine o_callN rfl rfl EntC.out (by decide) (made42_spec a0 a1 a2 ha0 ha1 ha2 x hxl hx fx ds hdl hg fd) fun v h' hr => ?_
  obtain ⟨⟨f1, f2, f3, rfl⟩, rfl⟩ := hr
  refine o_move rfl (by decide) ?_
  refine o_store 0 rfl rfl rfl rfl rfl rfl ?_
  refine o_assign rfl (by decide) ?_
  refine o_nil ?_
  refine h_ret ?_
  exact retG [] (.cons (resC 0 rfl rfl rfl) (.cons (resT rfl) .nil)) (List.nil_sublist _) ⟨_, rfl, ⟨ds, f1, f2, f3, fd, rfl, hdl, hg⟩, rfl⟩

theorem eltVo {l : List Ev} {n : Int} (h : n.toNat < l.length) : (l.map encV)[0 + n.toNat]? = some (encV (l.getD n.toNat dE)) := by rw [Nat.zero_add]; simp [h]

theorem runO_spec (w : Wd) (l : List Ev) (hlen : l.length ≤ 1000000000) (f1 f2 f3 : Bool) (bb cap : Nat) (hc : l.length ≤ cap) : Fc Try.prog 18 [encW w f1 f2 f3, .os bb 8 0 l.length cap] [(bb, .arr 36 8 (l.map encV) cap)] (fun r h' => h' = [(bb, .arr 36 8 (l.map encV) cap)] ∧ ∃ f1 f2 f3, r = .tup [encW (runM w l).1 f1 f2 f3, I (runM w l).2.1, I (runM w l).2.2]) := by
  refine fnE_intro (N := 50) Try.func18 rfl rfl rfl ?_
  intro X
  refine h_seq ?_
  refine h_region ?_
  refine o_box rfl rfl (by decide) fun x19 => ?_
  refine o_alloc (by decide) fun x20 => ?_
  refine o_assign rfl (by decide) ?_
  refine o_assign rfl (by decide) ?_
  refine o_nil ?_
  refine h_seq ?_
  refine h_seq ?_
  refine h_region ?_
  refine o_load 1 rfl rfl rfl rfl (by decide) ?_
  refine o_call1 rfl rfl EntC.out (by decide) (mvalid_spec w f1 f2 f3) ?_
  refine o_not rfl (by decide) ?_
  refine o_move rfl (by decide) ?_
  refine o_guard rfl rfl (by decide) (fun g22 => ?_) (fun g22 => ?_)
  ·
    have g22 : _ = false := g22
    refine o_move rfl (by decide) ?_
    refine o_guardy rfl rfl (by rw [(not_of g22)]; rfl) (by decide) ?_
    refine o_leno rfl (by decide) ?_
    refine o_guardy rfl rfl (by rw [(not_of g22)]; rfl) (by decide) ?_
    refine o_cmp rfl rfl rfl (by decide) ?_
    refine o_pickf rfl (by rw [(not_of g22)]; rfl) rfl (by decide) ?_
    refine o_move rfl (by decide) ?_
    refine o_guard rfl rfl (by decide) (fun g24 => ?_) (fun g24 => ?_)
    ·
      have g24 : _ = false := g24
      refine o_move rfl (by decide) ?_
      refine o_guardy rfl rfl g24 (by decide) ?_
      refine o_callL 2 rfl rfl rfl EntC.out (by decide) (.cons (.os _ _ (by simp) hc) (.cons (.refl _) .nil)) (isSorted_spec l hlen false) ?_
      refine o_guardy rfl rfl g24 (by decide) ?_
      refine o_not rfl (by decide) ?_
      refine o_pickf rfl g24 rfl (by decide) ?_
      refine o_nil ?_
      refine h_cond rfl (fun c26 => ?_) (fun c26 => ?_)
      ·
        refine h_seq ?_
        refine h_region ?_
        refine o_build rfl rfl (by decide) ?_
        refine o_store 0 rfl rfl rfl rfl rfl rfl ?_
        refine o_assign rfl (by decide) ?_
        refine o_assign rfl (by decide) ?_
        refine o_nil ?_
        refine h_ret ?_
        have hq : runM w l = (wd0, 0, 420) := (by simp only [runM]; rw [if_pos (by simp_all)])
        exact retG [(bb, OB.arr 36 8 (l.map encV) cap)] (.cons (resC 0 rfl rfl rfl) (.cons (resT rfl) (.cons (resT rfl) .nil))) (.cons _ (.cons _ (.cons_cons _ (.refl _)))) ⟨_, rfl, rfl, true, true, true, by rw [hq]; rfl⟩
      ·
        refine h_skip ?_
        refine h_seq ?_
        refine h_region ?_
        refine o_load 1 rfl rfl rfl rfl (by decide) ?_
        have hvv : validW w = true := by simp_all
        have hvp := (valid_iff w).1 hvv
        refine o_callN rfl rfl EntC.out (by decide) (copiedP_spec w f1 f2 f3 hvp) fun v h' hr => ?_
        obtain ⟨fc, rfl, rfl⟩ := hr
        refine o_store 1 rfl rfl rfl rfl rfl rfl ?_
        refine o_nil ?_
        refine h_seq ?_
        refine h_seq ?_
        refine h_region ?_
        refine o_move rfl (by decide) ?_
        refine o_leno rfl (by decide) ?_
        refine o_move rfl (by decide) ?_
        refine o_nil ?_
        refine h_block ?_
        refine h_famS (ι := RunI w l) (fun i => [(1, .os bb 8 0 l.length cap), (2, .ptr x19 0), (4, .ptr x20 0), (27, .os bb 8 0 l.length cap), (28, I (l.length : Nat)), (29, I (i.k : Nat))]) (fun i => (x20, .box 29 [I 0, I 0, V [] true, V [] true, V [] true]) :: (x19, .box 29 (cellsW i.wk i.f1 i.f2 i.f3)) :: (bb, .arr 36 8 (l.map encV) cap) :: []) (fun i => l.length - i.k) ⟨0, w, fc, false, false, Nat.zero_le _, rfl, hvp⟩ (.cons_cons _ (.cons_cons _ (.cons_cons _ (.refl _)))) (subT.cons rfl (subT.cons rfl (subT.cons rfl (subT.cons rfl (subT.cons rfl (subT.cons rfl subT.nil)))))) ?_
        rintro ⟨k, wk, g1, g2, g3, hk, hr, hv⟩
        dsimp only
        by_cases hlt : k < l.length
        ·
          refine h_seq ?_
          refine h_region ?_
          refine o_cmp rfl rfl rfl (by decide) ?_
          refine o_nil ?_
          refine h_seq ?_
          refine h_condt rfl (by simp; omega) ?_
          refine h_skip ?_
          refine h_seq ?_
          refine h_block ?_
          refine h_seq ?_
          refine h_region ?_
          refine o_move rfl (by decide) ?_
          refine o_idxo rfl rfl (by omega) (by simpa using hlt) (by decide) ?_
          refine o_loade 2 rfl rfl (eltVo (by simpa using hlt)) rfl rfl (by decide) ?_
          refine o_alloc (by decide) fun x28 => ?_
          refine o_assign rfl (by decide) ?_
          refine o_store 0 rfl rfl rfl rfl rfl rfl ?_
          refine o_nil ?_
          refine h_seq ?_
          refine h_region ?_
          refine o_load 2 rfl rfl rfl rfl (by decide) ?_
          refine o_load 0 rfl rfl rfl rfl (by decide) ?_
          refine o_callNE rfl rfl EntC.out (by decide) (step_spec wk (l.getD k dE) g1 g2 g3 hv (by have := valid_len hv.blk; omega)) (fun v h' hr => ?_) (fun c h' hr => by obtain ⟨_, ⟨_, _, _, h2⟩ | ⟨_, h2⟩⟩ := hr <;> cases h2)
          obtain ⟨rfl, ⟨w', f', hs, h2⟩ | ⟨hs, h2⟩⟩ := hr
          ·
            cases h2
            refine o_move rfl (by decide) ?_
            refine o_extract rfl rfl (by decide) ?_
            refine o_extract rfl rfl (by decide) ?_
            refine o_alloc (by decide) fun x29 => ?_
            refine o_store 0 rfl rfl rfl rfl rfl rfl ?_
            refine o_assign rfl (by decide) ?_
            refine o_nil ?_
            refine h_seq ?_
            refine h_seq ?_
            refine h_region ?_
            refine o_move rfl (by decide) ?_
            refine o_cmp rfl rfl rfl (by decide) ?_
            refine o_nil ?_
            refine h_condf rfl (by decide) ?_
            refine h_skip ?_
            refine h_region ?_
            refine o_load 0 rfl rfl rfl rfl (by decide) ?_
            refine o_store 3 rfl rfl rfl rfl rfl rfl ?_
            refine o_nil ?_
            refine h_region ?_
            refine o_add rfl rfl (by unfold in64; (try dsimp only); omega) (by decide) ?_
            refine o_move rfl (by decide) ?_
            refine o_nil ?_
            refine back rfl ⟨k + 1, w', f', false, false, hlt, (by rw [hr, drop_k hlt]; simp only [runL, hs]; rfl), (valid_iff w').1 (stepW_valid hs)⟩ (by dsimp only; omega) (.cons _ (.cons _ (.cons_cons _ (.cons_cons _ (.cons_cons _ (.refl _)))))) (subT.cons rfl (subT.cons rfl (subT.cons rfl (subT.cons rfl (subT.cons rfl (subT.cons rfl subT.nil))))))
          ·
            cases h2
            refine o_move rfl (by decide) ?_
            refine o_extract rfl rfl (by decide) ?_
            refine o_extract rfl rfl (by decide) ?_
            refine o_alloc (by decide) fun x31 => ?_
            refine o_store 0 rfl rfl rfl rfl rfl rfl ?_
            refine o_assign rfl (by decide) ?_
            refine o_nil ?_
            refine h_seq ?_
            refine h_seq ?_
            refine h_region ?_
            refine o_move rfl (by decide) ?_
            refine o_cmp rfl rfl rfl (by decide) ?_
            refine o_nil ?_
            refine h_condt rfl (by decide) ?_
            refine h_seq ?_
            refine h_region ?_
            refine o_build rfl rfl (by decide) ?_
            refine o_move rfl (by decide) ?_
            refine o_move rfl (by decide) ?_
            refine o_store 2 rfl rfl rfl rfl rfl rfl ?_
            refine o_assign rfl (by decide) ?_
            refine o_assign rfl (by decide) ?_
            refine o_nil ?_
            refine h_ret ?_
            have hq : runM w l = (wd0, (k : Int), 420) := (by simp only [runM]; rw [if_neg (by simp_all), hr, drop_k hlt]; simp only [runL, hs])
            exact retG [(bb, OB.arr 36 8 (l.map encV) cap)] (.cons (resC 2 rfl rfl rfl) (.cons (resT rfl) (.cons (resT rfl) .nil))) (.cons _ (.cons _ (.cons _ (.cons _ (.cons_cons _ (.refl _)))))) ⟨_, rfl, rfl, true, true, true, by rw [hq]; rfl⟩
        ·
          obtain rfl : k = l.length := by omega
          refine h_seq ?_
          refine h_region ?_
          refine o_cmp rfl rfl rfl (by decide) ?_
          refine o_nil ?_
          refine h_seq ?_
          refine h_condf rfl (by simp) ?_
          refine h_exit ?_
          refine h_seq ?_
          refine h_region ?_
          refine o_load 1 rfl rfl rfl rfl (by decide) ?_
          refine o_move rfl (by decide) ?_
          refine o_leno rfl (by decide) ?_
          refine o_store 0 rfl rfl rfl rfl rfl rfl ?_
          refine o_assign rfl (by decide) ?_
          refine o_assign rfl (by decide) ?_
          refine o_nil ?_
          refine h_ret ?_
          have hq : runM w l = (wk, ((l.length : Nat) : Int), 0) := (by simp only [runM]; rw [if_neg (by simp_all), hr, List.drop_length]; simp only [runL])
          exact retG [(bb, OB.arr 36 8 (l.map encV) cap)] (.cons (resC 0 rfl rfl rfl) (.cons (resT rfl) (.cons (resT rfl) .nil))) (.cons _ (.cons _ (.cons_cons _ (.refl _)))) ⟨_, rfl, rfl, g1, g2, g3, by rw [hq]; rfl⟩
    ·
      have g24 : _ = true := g24
      refine o_guardn rfl rfl g24 (by decide) ?_
      refine o_guardn rfl rfl g24 (by decide) ?_
      refine o_pickt rfl g24 rfl (by decide) ?_
      refine o_nil ?_
      refine h_condt rfl rfl ?_
      refine h_seq ?_
      refine h_region ?_
      refine o_build rfl rfl (by decide) ?_
      refine o_store 0 rfl rfl rfl rfl rfl rfl ?_
      refine o_assign rfl (by decide) ?_
      refine o_assign rfl (by decide) ?_
      refine o_nil ?_
      refine h_ret ?_
      have hq : runM w l = (wd0, 0, 420) := (by simp only [runM]; rw [if_pos (by simp_all)])
      exact retG [(bb, OB.arr 36 8 (l.map encV) cap)] (.cons (resC 0 rfl rfl rfl) (.cons (resT rfl) (.cons (resT rfl) .nil))) (.cons _ (.cons _ (.cons_cons _ (.refl _)))) ⟨_, rfl, rfl, true, true, true, by rw [hq]; rfl⟩
  ·
    have g22 : _ = true := g22
    refine o_guardn rfl rfl (by rw [(not_of g22)]; rfl) (by decide) ?_
    refine o_guardn rfl rfl (by rw [(not_of g22)]; rfl) (by decide) ?_
    refine o_pickt rfl (by rw [(not_of g22)]; rfl) rfl (by decide) ?_
    refine o_move rfl (by decide) ?_
    refine o_guardn rfl rfl rfl (by decide) ?_
    refine o_guardn rfl rfl rfl (by decide) ?_
    refine o_guardn rfl rfl rfl (by decide) ?_
    refine o_pickt rfl rfl rfl (by decide) ?_
    refine o_nil ?_
    refine h_condt rfl rfl ?_
    refine h_seq ?_
    refine h_region ?_
    refine o_build rfl rfl (by decide) ?_
    refine o_store 0 rfl rfl rfl rfl rfl rfl ?_
    refine o_assign rfl (by decide) ?_
    refine o_assign rfl (by decide) ?_
    refine o_nil ?_
    refine h_ret ?_
    have hq : runM w l = (wd0, 0, 420) := (by simp only [runM]; rw [if_pos (by simp_all)])
    exact retG [(bb, OB.arr 36 8 (l.map encV) cap)] (.cons (resC 0 rfl rfl rfl) (.cons (resT rfl) (.cons (resT rfl) .nil))) (.cons _ (.cons _ (.cons_cons _ (.refl _)))) ⟨_, rfl, rfl, true, true, true, by rw [hq]; rfl⟩

end Go.Proofs.Ytbnonekkjjcdgaa
/- The walk of the laws' check of the chapter's examples. -/
namespace Go.Proofs.Ytbnonekkjjcdgaa
open Go Go.RowKit Go.Shelf Hp
set_option maxRecDepth 10000
set_option maxHeartbeats 1000000
set_option linter.unusedVariables false
set_option linter.unusedSimpArgs false
attribute [local irreducible] WP WPs FnX IterX YdX RetP PanP Ch Back Join
def exA : List Ev := exE ++ [⟨2, 30, 2, 1, 0, 100, 110, 0⟩]
def exU : List Ev := exE ++ [⟨4, 30, 2, 0, 0, 0, 0, 0⟩, ⟨4, 30, 3, 0, 0, 0, 0, 0⟩, ⟨4, 40, 2, 0, 0, 0, 0, 0⟩]
def exU4 : List Ev := exU ++ [⟨4, 40, 2, 0, 0, 0, 0, 0⟩]
def exW1 : Wd := ⟨14, 14, [⟨100, 150, 1⟩, ⟨150, 180, 3⟩, ⟨180, 200, 1⟩, ⟨200, 300, 2⟩], [0, 30, -50, 20, 0, 0, 0, 0], [0, 0, 0, 0, 0, 0, 0, 0]⟩
def exW2 : Wd := ⟨12, 14, [⟨100, 150, 2⟩, ⟨150, 180, 3⟩, ⟨180, 300, 2⟩], [0, 0, -20, 20, 0, 0, 0, 0], [0, 0, 0, 0, 0, 0, 0, 0]⟩
def exW3 : Wd := ⟨12, 14, [⟨100, 150, 2⟩, ⟨150, 180, 3⟩, ⟨180, 300, 2⟩], [0, 0, -20, 20, 0, 0, 0, 0], [0, 0, 2, 1, 0, 0, 0, 0]⟩
def exC : Cl := ⟨100, 1, 2, 4, 0, false⟩
theorem ex1 : stepM exW ⟨2, 10, 1, 3, 0, 150, 180, 20⟩ = (exW1, 0) := by kernel_rfl
theorem ex2 : runM exW exE = (exW2, 2, 0) := by kernel_rfl
theorem ex3 : runM exW exA = (wd0, 2, 420) := by kernel_rfl
theorem ex4 : runM exW exU = (exW3, 5, 0) := by kernel_rfl
theorem ex5 : runM exW exU4 = (wd0, 5, 420) := by kernel_rfl
theorem ex6 : claimM exW exE exC 5 = (exC, true) := by kernel_rfl
theorem ex7 : claimM exW exE exC 20 = (⟨0, 0, 0, 0, 0, false⟩, false) := by kernel_rfl
theorem ex8 : debtsM exW exE [⟨2, 1, 50⟩] = ([⟨2, 3, 20⟩], 0) := by kernel_rfl
theorem step_ex : Fc Try.prog 9 [encW exW true true true, encE ⟨2, 10, 1, 3, 0, 150, 180, 20⟩] [] (RW (exW1, 0)) := ex1 ▸ mStep_spec exW ⟨2, 10, 1, 3, 0, 150, 180, 20⟩ true true true
theorem run_ex : Fc Try.prog 18 [encW exW true true true, V (exE.map encV) true] [] (RunR (exW2, 2, 0)) := ex2 ▸ run_spec exW exE (by decide) true true true true
theorem debts_ex : Fc Try.prog 20 [encW exW true true true, V (exE.map encV) true, V ([(⟨2, 1, 50⟩ : Dbt)].map encD) true] [] (fun r h' => (∃ f', r = .tup [V ([(⟨2, 3, 20⟩ : Dbt)].map encD) f', I 0]) ∧ h' = []) := by
  have h := debts_spec exW exE (by decide) true true true true [⟨2, 1, 50⟩] (by decide) true
  rw [ex8] at h; exact h
theorem claim_ex5 : Fn1 Try.prog 19 [encW exW true true true, V (exE.map encV) true, encC exC, I 5] (.tup [encC exC, B true]) := by
  have h := claim_spec exW exE (by decide) true true true true exC 5
  rw [ex6] at h; exact h
theorem claim_ex20 : Fn1 Try.prog 19 [encW exW true true true, V (exE.map encV) true, encC exC, I 20] (.tup [encC ⟨0, 0, 0, 0, 0, false⟩, B false]) := by
  have h := claim_spec exW exE (by decide) true true true true exC 20
  rw [ex7] at h; exact h
theorem runO_ex (l : List Ev) (p : Wd × Int × Int) (hp : runM exW l = p) (hl : l.length ≤ 1000000000) (bb cap n : Nat) (hn : n = l.length) (hc : n ≤ cap) (es : List (List PV)) (he : es = l.map encV) : Fc Try.prog 18 [encW exW true true true, .os bb 8 0 n cap] [(bb, .arr 36 8 es cap)] (fun r h' => h' = [(bb, .arr 36 8 (l.map encV) cap)] ∧ ∃ f1 f2 f3, r = .tup [encW p.1 f1 f2 f3, I p.2.1, I p.2.2]) := by
  subst hn; subst he; subst hp; exact runO_spec exW l hl true true true bb cap hc

theorem sane_spec : Fn1 Try.prog 5 [] (B true) := by
  refine fnE_intro (N := 213) Try.func5 rfl rfl rfl ?_
  intro X
  refine h_seq ?_
  refine h_region ?_
  refine o_assign rfl (by decide) ?_
  refine o_nil ?_
  refine h_seq ?_
  refine h_region ?_
  refine o_call1 rfl rfl EntC.out (by decide) example_spec ?_
  refine o_call1 rfl rfl EntC.out (by decide) events_spec ?_
  refine o_idxv rfl rfl (by omega) rfl rfl (by decide) ?_
  refine o_loadv rfl rfl (by decide) ?_
  refine o_callN rfl rfl EntC.out (by decide) step_ex fun v h' hr => ?_
  obtain ⟨rfl, u1, u2, u3, rfl⟩ := hr
  refine o_move rfl (by decide) ?_
  refine o_extract rfl rfl (by decide) ?_
  refine o_extract rfl rfl (by decide) ?_
  refine o_alloc (by decide) fun x1 => ?_
  refine o_store 0 rfl rfl rfl rfl rfl rfl ?_
  refine o_assign rfl (by decide) ?_
  refine o_nil ?_
  refine h_seq ?_
  refine h_region ?_
  refine o_call1 rfl rfl EntC.out (by decide) example_spec ?_
  refine o_call1 rfl rfl EntC.out (by decide) events_spec ?_
  refine o_callN rfl rfl EntC.out (by decide) run_ex fun v h' hr => ?_
  obtain ⟨rfl, v1, v2, v3, rfl⟩ := hr
  refine o_move rfl (by decide) ?_
  refine o_extract rfl rfl (by decide) ?_
  refine o_extract rfl rfl (by decide) ?_
  refine o_extract rfl rfl (by decide) ?_
  refine o_alloc (by decide) fun x2 => ?_
  refine o_store 0 rfl rfl rfl rfl rfl rfl ?_
  refine o_assign rfl (by decide) ?_
  refine o_assign rfl (by decide) ?_
  refine o_nil ?_
  refine h_seq ?_
  refine h_region ?_
  refine o_call1 rfl rfl EntC.out (by decide) events_spec ?_
  refine o_build rfl rfl (by decide) ?_
  refine o_build rfl rfl (by decide) ?_
  refine o_buildSlicep rfl (by rfl) (by rfl) (by rfl) (by rfl) (by decide) ?_
  refine o_appendv rfl rfl (Src.v _ _) (okB_all rfl) (by decide) (by decide) (by simp [chunk_length]; try decide) (by decide) fun x3 c4 hc5 => ?_
  refine o_assign rfl (by decide) ?_
  refine o_nil ?_
  refine h_seq ?_
  refine h_region ?_
  refine o_call1 rfl rfl EntC.out (by decide) example_spec ?_
  refine o_move rfl (by decide) ?_
  refine o_callB 0 (ob := .arr 36 8 _ _) (R := fun r ob' => ob' = OB.arr 36 8 ((exA).map encV) c4 ∧ ∃ f1 f2 f3, r = .tup [encW (wd0, 2, 420).1 f1 f2 f3, I (wd0, 2, 420).2.1, I (wd0, 2, 420).2.2]) rfl rfl rfl EntC.out (by decide) ((runO_ex exA (wd0, 2, 420) ex3 (by decide) _ _ _ (by rfl) (by simpa [chunk_length, exE] using hc5) _ (by rfl)).mono fun r h' ⟨h1, h2⟩ => ⟨_, h1, And.intro rfl h2⟩) fun v ob' hr => ?_
  obtain ⟨rfl, q50, r50, s50, rfl⟩ := hr
  refine o_move rfl (by decide) ?_
  refine o_extract rfl rfl (by decide) ?_
  refine o_extract rfl rfl (by decide) ?_
  refine o_extract rfl rfl (by decide) ?_
  refine o_alloc (by decide) fun x6 => ?_
  refine o_store 0 rfl rfl rfl rfl rfl rfl ?_
  refine o_assign rfl (by decide) ?_
  refine o_assign rfl (by decide) ?_
  refine o_nil ?_
  refine h_seq ?_
  refine h_region ?_
  refine o_call1 rfl rfl EntC.out (by decide) events_spec ?_
  refine o_build rfl rfl (by decide) ?_
  refine o_build rfl rfl (by decide) ?_
  refine o_build rfl rfl (by decide) ?_
  refine o_buildSlicep rfl (by rfl) (by rfl) (by rfl) (by rfl) (by decide) ?_
  refine o_appendv rfl rfl (Src.v _ _) (okB_all rfl) (by decide) (by decide) (by simp [chunk_length]; try decide) (by decide) fun x7 c8 hc9 => ?_
  refine o_assign rfl (by decide) ?_
  refine o_nil ?_
  refine h_seq ?_
  refine h_region ?_
  refine o_call1 rfl rfl EntC.out (by decide) example_spec ?_
  refine o_move rfl (by decide) ?_
  refine o_callB 0 (ob := .arr 36 8 _ _) (R := fun r ob' => ob' = OB.arr 36 8 ((exU).map encV) c8 ∧ ∃ f1 f2 f3, r = .tup [encW (exW3, 5, 0).1 f1 f2 f3, I (exW3, 5, 0).2.1, I (exW3, 5, 0).2.2]) rfl rfl rfl EntC.out (by decide) ((runO_ex exU (exW3, 5, 0) ex4 (by decide) _ _ _ (by rfl) (by simpa [chunk_length, exE] using hc9) _ (by rfl)).mono fun r h' ⟨h1, h2⟩ => ⟨_, h1, And.intro rfl h2⟩) fun v ob' hr => ?_
  obtain ⟨rfl, q63, r63, s63, rfl⟩ := hr
  refine o_move rfl (by decide) ?_
  refine o_extract rfl rfl (by decide) ?_
  refine o_extract rfl rfl (by decide) ?_
  refine o_extract rfl rfl (by decide) ?_
  refine o_alloc (by decide) fun x10 => ?_
  refine o_store 0 rfl rfl rfl rfl rfl rfl ?_
  refine o_assign rfl (by decide) ?_
  refine o_assign rfl (by decide) ?_
  refine o_nil ?_
  refine h_seq ?_
  refine h_region ?_
  refine o_call1 rfl rfl EntC.out (by decide) example_spec ?_
  refine o_move rfl (by decide) ?_
  refine o_build rfl rfl (by decide) ?_
  refine o_buildSlicep rfl (by rfl) (by rfl) (by rfl) (by rfl) (by decide) ?_
  refine o_append 1 rfl rfl rfl (Src.v _ _) (okB_all rfl) (by rfl) (by simp [chunk_length]; try decide) (by decide) fun x11 c12 hc13 => ?_
  refine o_callB 1 (ob := .arr 36 8 _ _) (R := fun r ob' => ob' = OB.arr 36 8 ((exU4).map encV) c12 ∧ ∃ f1 f2 f3, r = .tup [encW (wd0, 5, 420).1 f1 f2 f3, I (wd0, 5, 420).2.1, I (wd0, 5, 420).2.2]) rfl rfl rfl EntC.out (by decide) ((runO_ex exU4 (wd0, 5, 420) ex5 (by decide) _ _ _ (by rfl) (by simpa [chunk_length, exE] using hc13) _ (by rfl)).mono fun r h' ⟨h1, h2⟩ => ⟨_, h1, And.intro rfl h2⟩) fun v ob' hr => ?_
  obtain ⟨rfl, q73, r73, s73, rfl⟩ := hr
  refine o_move rfl (by decide) ?_
  refine o_extract rfl rfl (by decide) ?_
  refine o_extract rfl rfl (by decide) ?_
  refine o_extract rfl rfl (by decide) ?_
  refine o_alloc (by decide) fun x14 => ?_
  refine o_store 0 rfl rfl rfl rfl rfl rfl ?_
  refine o_assign rfl (by decide) ?_
  refine o_assign rfl (by decide) ?_
  refine o_nil ?_
  refine h_seq ?_
  refine h_region ?_
  refine o_build rfl rfl (by decide) ?_
  refine o_alloc (by decide) fun x15 => ?_
  refine o_store 0 rfl rfl rfl rfl rfl rfl ?_
  refine o_nil ?_
  refine h_seq ?_
  refine h_draw _ (.cons_cons _ (.cons_cons _ (.cons_cons _ (.cons _ (.cons_cons _ (.cons _ (.cons_cons _ (.cons_cons _ (List.nil_sublist _))))))))) [(0, .flo), (1, .flo), (2, .box), (3, .flo), (4, .flo), (5, .flo), (6, .flo), (7, .new), (8, .sto), (9, .flo)] mixed (by kernel_rfl) ?_
  refine c_flo rfl rfl (fun Xq rq Qq dq kq => o_call1 rfl rfl EntC.out (by decide) example_spec kq) ?_
  refine c_flo rfl rfl (fun Xq rq Qq dq kq => o_call1 rfl rfl EntC.out (by decide) events_spec kq) ?_
  refine c_box rfl rfl (fun Xq rq Qq dq kq => o_load 0 rfl rfl rfl rfl (by decide) kq) ?_
  refine c_flo rfl rfl (fun Xq rq Qq dq kq => o_call1 rfl rfl EntC.out (by decide) claim_ex5 kq) ?_
  refine c_flo rfl rfl (fun Xq rq Qq dq kq => o_move rfl (by decide) kq) ?_
  refine c_flo rfl rfl (fun Xq rq Qq dq kq => o_extract rfl rfl (by decide) kq) ?_
  refine c_flo rfl rfl (fun Xq rq Qq dq kq => o_extract rfl rfl (by decide) kq) ?_
  refine c_new rfl rfl (fun Xq rq Qq dq kq => o_alloc (by decide) kq) fun x16 => ?_
  refine c_sto (.cons _ (.cons_cons _ (.cons_cons _ (.cons_cons _ (.cons _ (.cons_cons _ (.cons _ (.cons_cons _ (.cons_cons _ (List.nil_sublist _)))))))))) rfl rfl (fun Xq rq Qq dq kq => o_store 0 rfl rfl rfl rfl rfl rfl kq) ?_
  refine c_flo rfl rfl (fun Xq rq Qq dq kq => o_assign rfl (by decide) kq) ?_
  refine c_nil ?_
  refine h_seq ?_
  refine h_draw _ (.cons_cons _ (.cons_cons _ (.cons_cons _ (.cons_cons _ (.cons _ (.cons_cons _ (.cons _ (.cons_cons _ (.cons_cons _ (List.nil_sublist _)))))))))) [(0, .flo), (1, .flo), (2, .box), (3, .flo), (4, .flo), (5, .flo), (6, .flo), (7, .new), (8, .sto), (9, .flo)] mixed (by kernel_rfl) ?_
  refine c_flo rfl rfl (fun Xq rq Qq dq kq => o_call1 rfl rfl EntC.out (by decide) example_spec kq) ?_
  refine c_flo rfl rfl (fun Xq rq Qq dq kq => o_call1 rfl rfl EntC.out (by decide) events_spec kq) ?_
  refine c_box rfl rfl (fun Xq rq Qq dq kq => o_load 1 rfl rfl rfl rfl (by decide) kq) ?_
  refine c_flo rfl rfl (fun Xq rq Qq dq kq => o_call1 rfl rfl EntC.out (by decide) claim_ex20 kq) ?_
  refine c_flo rfl rfl (fun Xq rq Qq dq kq => o_move rfl (by decide) kq) ?_
  refine c_flo rfl rfl (fun Xq rq Qq dq kq => o_extract rfl rfl (by decide) kq) ?_
  refine c_flo rfl rfl (fun Xq rq Qq dq kq => o_extract rfl rfl (by decide) kq) ?_
  refine c_new rfl rfl (fun Xq rq Qq dq kq => o_alloc (by decide) kq) fun x17 => ?_
  refine c_sto (.cons _ (.cons_cons _ (.cons_cons _ (.cons_cons _ (.cons_cons _ (.cons _ (.cons_cons _ (.cons _ (.cons_cons _ (.cons_cons _ (List.nil_sublist _))))))))))) rfl rfl (fun Xq rq Qq dq kq => o_store 0 rfl rfl rfl rfl rfl rfl kq) ?_
  refine c_flo rfl rfl (fun Xq rq Qq dq kq => o_assign rfl (by decide) kq) ?_
  refine c_nil ?_
  refine h_seq ?_
  refine h_region ?_
  refine o_call1 rfl rfl EntC.out (by decide) example_spec ?_
  refine o_call1 rfl rfl EntC.out (by decide) events_spec ?_
  refine o_build rfl rfl (by decide) ?_
  refine o_buildSlicep rfl (by rfl) (by rfl) (by rfl) (by rfl) (by decide) ?_
  refine o_callN rfl rfl EntC.out (by decide) debts_ex fun v h' hr => ?_
  obtain ⟨⟨fd, rfl⟩, rfl⟩ := hr
  refine o_move rfl (by decide) ?_
  refine o_extract rfl rfl (by decide) ?_
  refine o_extract rfl rfl (by decide) ?_
  refine o_assign rfl (by decide) ?_
  refine o_assign rfl (by decide) ?_
  refine o_nil ?_
  refine h_seq ?_
  refine h_seq ?_
  refine h_region ?_
  refine o_move rfl (by decide) ?_
  refine o_cmp rfl rfl rfl (by decide) ?_
  refine o_move rfl (by decide) ?_
  refine o_guardy rfl rfl (by decide) (by decide) ?_
  refine o_move rfl (by decide) ?_
  refine o_guardy rfl rfl (by decide) (by decide) ?_
  refine o_cmp rfl rfl rfl (by decide) ?_
  refine o_pickf rfl (by decide) rfl (by decide) ?_
  refine o_move rfl (by decide) ?_
  refine o_guardy rfl rfl (by decide) (by decide) ?_
  refine o_move rfl (by decide) ?_
  refine o_guardy rfl rfl (by decide) (by decide) ?_
  refine o_cmp rfl rfl rfl (by decide) ?_
  refine o_pickf rfl (by decide) rfl (by decide) ?_
  refine o_move rfl (by decide) ?_
  refine o_guardy rfl rfl (by decide) (by decide) ?_
  refine o_move rfl (by decide) ?_
  refine o_guardy rfl rfl (by decide) (by decide) ?_
  refine o_cmp rfl rfl rfl (by decide) ?_
  refine o_pickf rfl (by decide) rfl (by decide) ?_
  refine o_move rfl (by decide) ?_
  refine o_guardy rfl rfl (by decide) (by decide) ?_
  refine o_move rfl (by decide) ?_
  refine o_guardy rfl rfl (by decide) (by decide) ?_
  refine o_cmp rfl rfl rfl (by decide) ?_
  refine o_pickf rfl (by decide) rfl (by decide) ?_
  refine o_move rfl (by decide) ?_
  refine o_guardy rfl rfl (by decide) (by decide) ?_
  refine o_move rfl (by decide) ?_
  refine o_guardy rfl rfl (by decide) (by decide) ?_
  refine o_cmp rfl rfl rfl (by decide) ?_
  refine o_pickf rfl (by decide) rfl (by decide) ?_
  refine o_move rfl (by decide) ?_
  refine o_guardy rfl rfl (by decide) (by decide) ?_
  refine o_move rfl (by decide) ?_
  refine o_guardy rfl rfl (by decide) (by decide) ?_
  refine o_cmp rfl rfl rfl (by decide) ?_
  refine o_pickf rfl (by decide) rfl (by decide) ?_
  refine o_move rfl (by decide) ?_
  refine o_guardy rfl rfl (by decide) (by decide) ?_
  refine o_move rfl (by decide) ?_
  refine o_guardy rfl rfl (by decide) (by decide) ?_
  refine o_cmp rfl rfl rfl (by decide) ?_
  refine o_pickf rfl (by decide) rfl (by decide) ?_
  refine o_move rfl (by decide) ?_
  refine o_guardy rfl rfl (by decide) (by decide) ?_
  refine o_move rfl (by decide) ?_
  refine o_guardy rfl rfl (by decide) (by decide) ?_
  refine o_cmp rfl rfl rfl (by decide) ?_
  refine o_pickf rfl (by decide) rfl (by decide) ?_
  refine o_move rfl (by decide) ?_
  refine o_guardy rfl rfl (by decide) (by decide) ?_
  refine o_move rfl (by decide) ?_
  refine o_guardy rfl rfl (by decide) (by decide) ?_
  refine o_cmp rfl rfl rfl (by decide) ?_
  refine o_pickf rfl (by decide) rfl (by decide) ?_
  refine o_move rfl (by decide) ?_
  refine o_guardy rfl rfl (by decide) (by decide) ?_
  refine o_move rfl (by decide) ?_
  refine o_guardy rfl rfl (by decide) (by decide) ?_
  refine o_not rfl (by decide) ?_
  refine o_pickf rfl (by decide) rfl (by decide) ?_
  refine o_move rfl (by decide) ?_
  refine o_guardy rfl rfl rfl (by decide) ?_
  refine o_move rfl (by decide) ?_
  refine o_pickf rfl rfl rfl (by decide) ?_
  refine o_move rfl (by decide) ?_
  refine o_guardy rfl rfl rfl (by decide) ?_
  refine o_load 1 rfl rfl rfl rfl (by decide) ?_
  refine o_guardy rfl rfl rfl (by decide) ?_
  refine o_load 2 rfl rfl rfl rfl (by decide) ?_
  refine o_guardy rfl rfl rfl (by decide) ?_
  refine o_neS rfl rfl rfl rfl (by decide) ?_
  refine o_pickf rfl rfl rfl (by decide) ?_
  refine o_move rfl (by decide) ?_
  refine o_guardy rfl rfl (by decide) (by decide) ?_
  refine o_move rfl (by decide) ?_
  refine o_guardy rfl rfl (by decide) (by decide) ?_
  refine o_len rfl (by decide) ?_
  refine o_guardy rfl rfl (by decide) (by decide) ?_
  refine o_cmp rfl rfl rfl (by decide) ?_
  refine o_pickf rfl (by decide) rfl (by decide) ?_
  refine o_nil ?_
  refine h_condf rfl (by decide) ?_
  refine h_skip ?_
  refine h_seq ?_
  refine h_draw _ (List.nil_sublist _) [(0, .val), (1, .flo), (2, .flo), (3, .flo), (4, .flo), (5, .flo), (6, .flo), (7, .flo), (8, .flo), (9, .flo), (10, .flo)] mixed (by kernel_rfl) ?_
  refine c_val rfl rfl (fun Xq rq Qq dq kq => o_load 9 rfl rfl rfl rfl (by decide) kq) ?_
  refine c_flo rfl rfl (fun Xq rq Qq dq kq => o_call1 rfl rfl EntC.out (by decide) (block1_spec _ _ _) kq) ?_
  refine c_flo rfl rfl (fun Xq rq Qq dq kq => o_call1 rfl rfl EntC.out (by decide) (block1_spec _ _ _) kq) ?_
  refine c_flo rfl rfl (fun Xq rq Qq dq kq => o_call1 rfl rfl EntC.out (by decide) (block1_spec _ _ _) kq) ?_
  refine c_flo rfl rfl (fun Xq rq Qq dq kq => o_call1 rfl rfl EntC.out (by decide) (block1_spec _ _ _) kq) ?_
  refine c_flo rfl rfl (fun Xq rq Qq dq kq => o_buildSlicep rfl (by rfl) (by rfl) (by rfl) (by rfl) (by decide) kq) ?_
  refine c_flo rfl rfl (fun Xq rq Qq dq kq => o_buildSlicep rfl (by rfl) (by rfl) (by rfl) (by rfl) (by decide) kq) ?_
  refine c_flo rfl rfl (fun Xq rq Qq dq kq => o_makeSlicep (n := 8) rfl (by decide) kq) ?_
  refine c_flo rfl rfl (fun Xq rq Qq dq kq => o_build rfl rfl (by decide) kq) ?_
  refine c_flo rfl rfl (fun Xq rq Qq dq kq => o_call1 rfl rfl EntC.out (by decide) (same42_spec exW1 exW1 (by unfold smallW; decide) (by unfold smallW; decide) _ _ _ true true true) kq) ?_
  refine c_flo rfl rfl (fun Xq rq Qq dq kq => o_assign rfl (by decide) kq) ?_
  refine c_nil ?_
  refine h_seq ?_
  refine h_draw _ (List.nil_sublist _) [(0, .val), (1, .flo), (2, .flo), (3, .flo), (4, .flo), (5, .flo), (6, .flo), (7, .flo), (8, .flo), (9, .flo)] mixed (by kernel_rfl) ?_
  refine c_val rfl rfl (fun Xq rq Qq dq kq => o_load 8 rfl rfl rfl rfl (by decide) kq) ?_
  refine c_flo rfl rfl (fun Xq rq Qq dq kq => o_call1 rfl rfl EntC.out (by decide) (block1_spec _ _ _) kq) ?_
  refine c_flo rfl rfl (fun Xq rq Qq dq kq => o_call1 rfl rfl EntC.out (by decide) (block1_spec _ _ _) kq) ?_
  refine c_flo rfl rfl (fun Xq rq Qq dq kq => o_call1 rfl rfl EntC.out (by decide) (block1_spec _ _ _) kq) ?_
  refine c_flo rfl rfl (fun Xq rq Qq dq kq => o_buildSlicep rfl (by rfl) (by rfl) (by rfl) (by rfl) (by decide) kq) ?_
  refine c_flo rfl rfl (fun Xq rq Qq dq kq => o_buildSlicep rfl (by rfl) (by rfl) (by rfl) (by rfl) (by decide) kq) ?_
  refine c_flo rfl rfl (fun Xq rq Qq dq kq => o_makeSlicep (n := 8) rfl (by decide) kq) ?_
  refine c_flo rfl rfl (fun Xq rq Qq dq kq => o_build rfl rfl (by decide) kq) ?_
  refine c_flo rfl rfl (fun Xq rq Qq dq kq => o_call1 rfl rfl EntC.out (by decide) (same42_spec exW2 exW2 (by unfold smallW; decide) (by unfold smallW; decide) _ _ _ true true true) kq) ?_
  refine c_flo rfl rfl (fun Xq rq Qq dq kq => o_assign rfl (by decide) kq) ?_
  refine c_nil ?_
  refine h_seq ?_
  refine h_region ?_
  refine o_faddr rfl rfl (by decide) (by decide) ?_
  refine o_load 4 rfl rfl rfl rfl (by decide) ?_
  refine o_buildSlicep rfl (by rfl) (by rfl) (by rfl) (by rfl) (by decide) ?_
  refine o_call1 rfl rfl EntC.out (by decide) (ints_spec exW3.lev [0, 0, 2, 1, 0, 0, 0, 0] (by decide) (by decide) _ _) ?_
  refine o_assign rfl (by decide) ?_
  refine o_nil ?_
  refine h_seq ?_
  refine h_region ?_
  refine o_move rfl (by decide) ?_
  refine o_move rfl (by decide) ?_
  refine o_guardy rfl rfl (by decide +kernel) (by decide) ?_
  refine o_move rfl (by decide) ?_
  refine o_pickt rfl (by decide +kernel) rfl (by decide) ?_
  refine o_move rfl (by decide) ?_
  refine o_guardy rfl rfl (by decide +kernel) (by decide) ?_
  refine o_move rfl (by decide) ?_
  refine o_pickt rfl (by decide +kernel) rfl (by decide) ?_
  refine o_move rfl (by decide) ?_
  refine o_guardy rfl rfl (by decide +kernel) (by decide) ?_
  refine o_call1 rfl rfl EntC.out (by decide) (succeeds_spec _ _ _) ?_
  refine o_pickt rfl (by decide +kernel) rfl (by decide) ?_
  refine o_move rfl (by decide) ?_
  refine o_guardy rfl rfl (by decide +kernel) (by decide) ?_
  refine o_call1 rfl rfl EntC.out (by decide) (succeeds_spec _ _ _) ?_
  refine o_pickt rfl (by decide +kernel) rfl (by decide) ?_
  refine o_move rfl (by decide) ?_
  refine o_guardy rfl rfl (by decide +kernel) (by decide) ?_
  refine o_call1 rfl rfl EntC.out (by decide) (succeeds_spec _ _ _) ?_
  refine o_pickt rfl (by decide +kernel) rfl (by decide) ?_
  refine o_move rfl (by decide) ?_
  refine o_guardy rfl rfl (by decide +kernel) (by decide) ?_
  refine o_call1 rfl rfl EntC.out (by decide) (succeeds_spec _ _ _) ?_
  refine o_pickt rfl (by decide +kernel) rfl (by decide) ?_
  refine o_move rfl (by decide) ?_
  refine o_guardy rfl rfl (by decide +kernel) (by decide) ?_
  refine o_move rfl (by decide) ?_
  refine o_guardy rfl rfl (by decide +kernel) (by decide) ?_
  refine o_idxv rfl rfl (by omega) rfl rfl (by decide) ?_
  refine o_guardy rfl rfl (by decide +kernel) (by decide) ?_
  refine o_loadv rfl rfl (by decide) ?_
  refine o_guardy rfl rfl (by decide +kernel) (by decide) ?_
  refine o_build rfl rfl (by decide) ?_
  refine o_guardy rfl rfl (by decide +kernel) (by decide) ?_
  refine o_eqS rfl rfl rfl rfl (by decide) ?_
  refine o_pickt rfl (by decide +kernel) rfl (by decide) ?_
  refine o_move rfl (by decide) ?_
  refine o_guardy rfl rfl (by decide) (by decide) ?_
  refine o_call1 rfl rfl EntC.out (by decide) example_spec ?_
  refine o_guardy rfl rfl (by decide) (by decide) ?_
  refine o_call1 rfl rfl EntC.out (by decide) (mvalid_spec exW true true true) ?_
  refine o_pickt rfl (by decide) rfl (by decide) ?_
  refine o_move rfl (by decide) ?_
  refine o_guardy rfl rfl (by decide +kernel) (by decide) ?_
  refine o_build rfl rfl (by decide) ?_
  refine o_guardy rfl rfl (by decide +kernel) (by decide) ?_
  refine o_call1 rfl rfl EntC.out (by decide) (mvalid_spec wd0 true true true) ?_
  refine o_guardy rfl rfl (by decide +kernel) (by decide) ?_
  refine o_not rfl (by decide) ?_
  refine o_pickt rfl (by decide +kernel) rfl (by decide) ?_
  refine o_assign rfl (by decide) ?_
  refine o_nil ?_
  refine h_ret ?_
  exact ret1' rfl (B_eq (by decide +kernel))

end Go.Proofs.Ytbnonekkjjcdgaa
/- The walk of the law MergeOrder; what it leaves to show of worlds and events. -/
namespace Go.Proofs.Ytbnonekkjjcdgaa
open Go Go.RowKit Go.Shelf Hp
set_option maxRecDepth 10000
set_option maxHeartbeats 1000000
set_option linter.unusedVariables false
set_option linter.unusedSimpArgs false
attribute [local irreducible] WP WPs FnX IterX YdX RetP PanP Ch Back Join
theorem stepM_small (w : Wd) (e : Ev) : smallW (stepM w e).1 := by
  unfold stepM
  split
  · split
    · rename_i w' h
      have hv := (valid_iff w').1 (stepW_valid h)
      exact ⟨by have := valid_len hv.blk; dsimp only; omega, by have := hv.lb; dsimp only; omega, by have := hv.ll; dsimp only; omega⟩
    · simp [smallW, wd0]
  · simp [smallW, wd0]
/-- Two events without a common carrier: the order does not matter. -/
def OrderLaw : Prop := ∀ (w : Wd) (d e : Ev), GoodE 0 d → GoodE 0 e → d.kind ≠ 4 → e.kind ≠ 4 → commonM d e = false → (stepM w d).2 = 0 → (stepM (stepM w d).1 e).2 = 0 → (stepM w e).2 = 0 → (stepM (stepM w e).1 d).2 = 0 →
  eqW (stepM (stepM w d).1 e).1 (stepM (stepM w e).1 d).1 = true

theorem mergeOrder_spec (hlaw : OrderLaw) (a0 a1 a2 : Int) (ha0 : in64 a0) (ha1 : in64 a1) (ha2 : in64 a2) (x y : List T3) (hxl : x.length ≤ 1000000000) (hyl : y.length ≤ 1000000000) (hx : ok3 x) (hy : ok3 y) (fx fy : Bool) (p0 p1 p2 p3 p4 p5 p6 q0 q1 q2 q3 q4 q5 q6 : Int) (hp0 : in64 p0) (hp1 : in64 p1) (hp2 : in64 p2) (hp3 : in64 p3) (hp4 : in64 p4) (hp5 : in64 p5) (hp6 : in64 p6) (hq0 : in64 q0) (hq1 : in64 q1) (hq2 : in64 q2) (hq3 : in64 q3) (hq4 : in64 q4) (hq5 : in64 q5) (hq6 : in64 q6) : Fn1 Try.prog 3 [.agg [I a0, I a1, I a2], V (x.map enc3) fx, V (y.map enc3) fy, .agg [I p0, I p1, I p2, I p3, I p4, I p5, I p6], .agg [I q0, I q1, I q2, I q3, I q4, I q5, I q6]] (B true) := by
  refine fnE_intro (N := 96) Try.func3 rfl rfl rfl ?_
  intro X
  refine h_seq ?_
  refine h_region ?_
  refine o_box rfl rfl (by decide) fun x1 => ?_
  refine o_box rfl rfl (by decide) fun x2 => ?_
  refine o_box rfl rfl (by decide) fun x3 => ?_
  refine o_assign rfl (by decide) ?_
  refine o_nil ?_
  refine h_seq ?_
  refine h_region ?_
  refine o_call1 rfl rfl EntC.out (by decide) sane_spec ?_
  refine o_assign rfl (by decide) ?_
  refine o_nil ?_
  refine h_seq ?_
  refine h_seq ?_
  refine h_region ?_
  refine o_move rfl (by decide) ?_
  refine o_not rfl (by decide) ?_
  refine o_nil ?_
  refine h_condf rfl rfl ?_
  refine h_skip ?_
  refine h_seq ?_
  refine h_region ?_
  refine o_load 2 rfl rfl rfl rfl (by decide) ?_
  refine o_move rfl (by decide) ?_
  refine o_move rfl (by decide) ?_
  refine o_callN rfl rfl EntC.out (by decide) (made_spec a0 a1 a2 ha0 ha1 ha2 x y hxl hyl hx hy fx fy) fun v h' hr => ?_
  obtain ⟨⟨ds, w1, w2, w3, w4, rfl, hdl, hgd⟩, rfl⟩ := hr
  obtain ⟨w, hw⟩ : ∃ w, w = madeW a0 a1 x a2 ds := ⟨_, rfl⟩
  rw [← hw]
  refine o_move rfl (by decide) ?_
  refine o_extract rfl rfl (by decide) ?_
  refine o_extract rfl rfl (by decide) ?_
  refine o_alloc (by decide) fun x5 => ?_
  refine o_store 0 rfl rfl rfl rfl rfl rfl ?_
  refine o_assign rfl (by decide) ?_
  refine o_nil ?_
  refine h_seq ?_
  refine h_region ?_
  refine o_load 0 rfl rfl rfl rfl (by decide) ?_
  refine o_load 2 rfl rfl rfl rfl (by decide) ?_
  refine o_callN rfl rfl EntC.out (by decide) (one42_spec w w1 w2 w3 0 (by decide) (by decide) p0 p1 p2 p3 p4 p5 p6 hp0 hp1 hp2 hp3 hp4 hp5 hp6) fun v h' hr => ?_
  obtain ⟨⟨d, rfl, hgd1⟩, rfl⟩ := hr
  refine o_alloc (by decide) fun x6 => ?_
  refine o_store 0 rfl rfl rfl rfl rfl rfl ?_
  refine o_nil ?_
  refine h_seq ?_
  refine h_region ?_
  refine o_load 1 rfl rfl rfl rfl (by decide) ?_
  refine o_load 2 rfl rfl rfl rfl (by decide) ?_
  refine o_callN rfl rfl EntC.out (by decide) (one42_spec w w1 w2 w3 0 (by decide) (by decide) q0 q1 q2 q3 q4 q5 q6 hq0 hq1 hq2 hq3 hq4 hq5 hq6) fun v h' hr => ?_
  obtain ⟨⟨e, rfl, hge⟩, rfl⟩ := hr
  refine o_alloc (by decide) fun x7 => ?_
  refine o_store 0 rfl rfl rfl rfl rfl rfl ?_
  refine o_nil ?_
  refine h_seq ?_
  refine h_seq ?_
  refine h_region ?_
  refine o_faddr rfl rfl (by decide) (by decide) ?_
  refine o_load 1 rfl rfl rfl rfl (by decide) ?_
  refine o_cmp rfl rfl rfl (by decide) ?_
  refine o_move rfl (by decide) ?_
  refine o_guard rfl rfl (by decide) (fun g9 => ?_) (fun g9 => ?_)
  ·
    have g9 : _ = false := g9
    refine o_faddr rfl rfl (by decide) (by decide) ?_
    refine o_guardy rfl rfl g9 (by decide) ?_
    refine o_load 0 rfl rfl rfl rfl (by decide) ?_
    refine o_guardy rfl rfl g9 (by decide) ?_
    refine o_cmp rfl rfl rfl (by decide) ?_
    refine o_pickf rfl g9 rfl (by decide) ?_
    refine o_move rfl (by decide) ?_
    refine o_guard rfl rfl (by decide) (fun g11 => ?_) (fun g11 => ?_)
    ·
      have g11 : _ = false := g11
      refine o_load 1 rfl rfl rfl rfl (by decide) ?_
      refine o_guardy rfl rfl g11 (by decide) ?_
      refine o_load 0 rfl rfl rfl rfl (by decide) ?_
      refine o_guardy rfl rfl g11 (by decide) ?_
      refine o_call1 rfl rfl EntC.out (by decide) (common_spec d e) ?_
      refine o_pickf rfl g11 rfl (by decide) ?_
      refine o_nil ?_
      refine h_cond rfl (fun c13 => ?_) (fun c13 => ?_)
      ·
        refine h_seq ?_
        refine h_region ?_
        refine o_move rfl (by decide) ?_
        refine o_assign rfl (by decide) ?_
        refine o_nil ?_
        refine h_ret ?_
        exact ret1' rfl rfl
      ·
        refine h_skip ?_
        refine h_seq ?_
        refine h_region ?_
        refine o_load 2 rfl rfl rfl rfl (by decide) ?_
        refine o_load 1 rfl rfl rfl rfl (by decide) ?_
        refine o_callN rfl rfl EntC.out (by decide) (mStep_spec w d _ _ _) fun v h' hr => ?_
        obtain ⟨rfl, u571, u572, u573, rfl⟩ := hr
        refine o_move rfl (by decide) ?_
        refine o_extract rfl rfl (by decide) ?_
        refine o_extract rfl rfl (by decide) ?_
        refine o_alloc (by decide) fun x14 => ?_
        refine o_store 0 rfl rfl rfl rfl rfl rfl ?_
        refine o_assign rfl (by decide) ?_
        refine o_nil ?_
        refine h_seq ?_
        refine h_region ?_
        refine o_load 0 rfl rfl rfl rfl (by decide) ?_
        refine o_load 1 rfl rfl rfl rfl (by decide) ?_
        refine o_callN rfl rfl EntC.out (by decide) (mStep_spec (stepM w d).1 e _ _ _) fun v h' hr => ?_
        obtain ⟨rfl, u631, u632, u633, rfl⟩ := hr
        refine o_move rfl (by decide) ?_
        refine o_extract rfl rfl (by decide) ?_
        refine o_extract rfl rfl (by decide) ?_
        refine o_alloc (by decide) fun x15 => ?_
        refine o_store 0 rfl rfl rfl rfl rfl rfl ?_
        refine o_assign rfl (by decide) ?_
        refine o_nil ?_
        refine h_seq ?_
        refine h_region ?_
        refine o_load 4 rfl rfl rfl rfl (by decide) ?_
        refine o_load 2 rfl rfl rfl rfl (by decide) ?_
        refine o_callN rfl rfl EntC.out (by decide) (mStep_spec w e _ _ _) fun v h' hr => ?_
        obtain ⟨rfl, u691, u692, u693, rfl⟩ := hr
        refine o_move rfl (by decide) ?_
        refine o_extract rfl rfl (by decide) ?_
        refine o_extract rfl rfl (by decide) ?_
        refine o_alloc (by decide) fun x16 => ?_
        refine o_store 0 rfl rfl rfl rfl rfl rfl ?_
        refine o_assign rfl (by decide) ?_
        refine o_nil ?_
        refine h_seq ?_
        refine h_region ?_
        refine o_load 0 rfl rfl rfl rfl (by decide) ?_
        refine o_load 4 rfl rfl rfl rfl (by decide) ?_
        refine o_callN rfl rfl EntC.out (by decide) (mStep_spec (stepM w e).1 d _ _ _) fun v h' hr => ?_
        obtain ⟨rfl, u751, u752, u753, rfl⟩ := hr
        refine o_move rfl (by decide) ?_
        refine o_extract rfl rfl (by decide) ?_
        refine o_extract rfl rfl (by decide) ?_
        refine o_alloc (by decide) fun x17 => ?_
        refine o_store 0 rfl rfl rfl rfl rfl rfl ?_
        refine o_assign rfl (by decide) ?_
        refine o_nil ?_
        refine h_seq ?_
        refine h_seq ?_
        refine h_region ?_
        refine o_move rfl (by decide) ?_
        refine o_cmp rfl rfl rfl (by decide) ?_
        refine o_move rfl (by decide) ?_
        refine o_guard rfl rfl (by decide) (fun g19 => ?_) (fun g19 => ?_)
        ·
          have g19 : _ = false := g19
          refine o_move rfl (by decide) ?_
          refine o_guardy rfl rfl g19 (by decide) ?_
          refine o_cmp rfl rfl rfl (by decide) ?_
          refine o_pickf rfl g19 rfl (by decide) ?_
          refine o_move rfl (by decide) ?_
          refine o_guard rfl rfl (by decide) (fun g21 => ?_) (fun g21 => ?_)
          ·
            have g21 : _ = false := g21
            refine o_move rfl (by decide) ?_
            refine o_guardy rfl rfl g21 (by decide) ?_
            refine o_cmp rfl rfl rfl (by decide) ?_
            refine o_pickf rfl g21 rfl (by decide) ?_
            refine o_move rfl (by decide) ?_
            refine o_guard rfl rfl (by decide) (fun g23 => ?_) (fun g23 => ?_)
            ·
              have g23 : _ = false := g23
              refine o_move rfl (by decide) ?_
              refine o_guardy rfl rfl g23 (by decide) ?_
              refine o_cmp rfl rfl rfl (by decide) ?_
              refine o_pickf rfl g23 rfl (by decide) ?_
              refine o_nil ?_
              refine h_cond rfl (fun c25 => ?_) (fun c25 => ?_)
              ·
                refine h_seq ?_
                refine h_region ?_
                refine o_move rfl (by decide) ?_
                refine o_assign rfl (by decide) ?_
                refine o_nil ?_
                refine h_ret ?_
                exact ret1' rfl rfl
              ·
                refine h_skip ?_
                refine h_seq ?_
                refine h_region ?_
                refine o_load 2 rfl rfl rfl rfl (by decide) ?_
                refine o_load 0 rfl rfl rfl rfl (by decide) ?_
                refine o_call1 rfl rfl EntC.out (by decide) (same42_spec _ _ (stepM_small _ _) (stepM_small _ _) _ _ _ _ _ _) ?_
                refine o_assign rfl (by decide) ?_
                refine o_nil ?_
                refine h_ret ?_
                exact ret1' rfl (B_eq (hlaw w d e hgd1 hge (by simp_all) (by simp_all) (by simp_all) (by simp_all) (by simp_all) (by simp_all) (by simp_all)))
            ·
              have g23 : _ = true := g23
              refine o_guardn rfl rfl g23 (by decide) ?_
              refine o_pickt rfl g23 rfl (by decide) ?_
              refine o_nil ?_
              refine h_condt rfl rfl ?_
              refine h_seq ?_
              refine h_region ?_
              refine o_move rfl (by decide) ?_
              refine o_assign rfl (by decide) ?_
              refine o_nil ?_
              refine h_ret ?_
              exact ret1' rfl rfl
          ·
            have g21 : _ = true := g21
            refine o_guardn rfl rfl g21 (by decide) ?_
            refine o_pickt rfl g21 rfl (by decide) ?_
            refine o_move rfl (by decide) ?_
            refine o_guardn rfl rfl rfl (by decide) ?_
            refine o_guardn rfl rfl rfl (by decide) ?_
            refine o_pickt rfl rfl rfl (by decide) ?_
            refine o_nil ?_
            refine h_condt rfl rfl ?_
            refine h_seq ?_
            refine h_region ?_
            refine o_move rfl (by decide) ?_
            refine o_assign rfl (by decide) ?_
            refine o_nil ?_
            refine h_ret ?_
            exact ret1' rfl rfl
        ·
          have g19 : _ = true := g19
          refine o_guardn rfl rfl g19 (by decide) ?_
          refine o_pickt rfl g19 rfl (by decide) ?_
          refine o_move rfl (by decide) ?_
          refine o_guardn rfl rfl rfl (by decide) ?_
          refine o_guardn rfl rfl rfl (by decide) ?_
          refine o_pickt rfl rfl rfl (by decide) ?_
          refine o_move rfl (by decide) ?_
          refine o_guardn rfl rfl rfl (by decide) ?_
          refine o_guardn rfl rfl rfl (by decide) ?_
          refine o_pickt rfl rfl rfl (by decide) ?_
          refine o_nil ?_
          refine h_condt rfl rfl ?_
          refine h_seq ?_
          refine h_region ?_
          refine o_move rfl (by decide) ?_
          refine o_assign rfl (by decide) ?_
          refine o_nil ?_
          refine h_ret ?_
          exact ret1' rfl rfl
    ·
      have g11 : _ = true := g11
      refine o_guardn rfl rfl g11 (by decide) ?_
      refine o_guardn rfl rfl g11 (by decide) ?_
      refine o_pickt rfl g11 rfl (by decide) ?_
      refine o_nil ?_
      refine h_condt rfl rfl ?_
      refine h_seq ?_
      refine h_region ?_
      refine o_move rfl (by decide) ?_
      refine o_assign rfl (by decide) ?_
      refine o_nil ?_
      refine h_ret ?_
      exact ret1' rfl rfl
  ·
    have g9 : _ = true := g9
    refine o_guardn rfl rfl g9 (by decide) ?_
    refine o_guardn rfl rfl g9 (by decide) ?_
    refine o_pickt rfl g9 rfl (by decide) ?_
    refine o_move rfl (by decide) ?_
    refine o_guardn rfl rfl rfl (by decide) ?_
    refine o_guardn rfl rfl rfl (by decide) ?_
    refine o_guardn rfl rfl rfl (by decide) ?_
    refine o_pickt rfl rfl rfl (by decide) ?_
    refine o_nil ?_
    refine h_condt rfl rfl ?_
    refine h_seq ?_
    refine h_region ?_
    refine o_move rfl (by decide) ?_
    refine o_assign rfl (by decide) ?_
    refine o_nil ?_
    refine h_ret ?_
    exact ret1' rfl rfl

end Go.Proofs.Ytbnonekkjjcdgaa
