/- The walk of merge.step and merge.Step. -/
import Derived.Test.YtbnonekkjjcdgaaMergeB
namespace Go.Proofs.Ytbnonekkjjcdgaa
open Go Go.RowKit Go.Shelf Hp
set_option maxRecDepth 10000
set_option maxHeartbeats 1000000
set_option linter.unusedVariables false
set_option linter.unusedSimpArgs false
attribute [local irreducible] WP WPs FnX IterX YdX RetP PanP Ch Back Join
def okE (w : Wd) (e : Ev) : Bool := decide (1 ≤ e.kind ∧ e.kind ≤ 4) && inM e.t 0 10000000 && carOk e.a && carOk e.b && carOk e.c && hasC w.alive e.a
def doW (w : Wd) (e : Ev) : Option Wd := if e.kind = 1 then mergeW w e else if e.kind = 2 then splitW w e else if e.kind = 3 then windW w e else upW w e
/-- The world after an event, where it is possible. -/
def stepW (w : Wd) (e : Ev) : Option Wd := if okE w e = false then none else match doW w e with
  | none => none
  | some w' => if validW w' then some w' else none
theorem stepW_bad {w : Wd} {e : Ev} (h : okE w e = false) : stepW w e = none := by simp [stepW, h]
theorem stepW_no {w : Wd} {e : Ev} (h : okE w e = true) (hd : doW w e = none) : stepW w e = none := by simp [stepW, h, hd]
theorem stepW_inv {w w' : Wd} {e : Ev} (h : okE w e = true) (hd : doW w e = some w') (hv : validW w' = false) : stepW w e = none := by simp [stepW, h, hd, hv]
theorem stepW_ok {w w' : Wd} {e : Ev} (h : okE w e = true) (hd : doW w e = some w') (hv : validW w' = true) : stepW w e = some w' := by simp [stepW, h, hd, hv]
theorem doW1 {w : Wd} {e : Ev} (h : e.kind = 1) : doW w e = mergeW w e := by simp [doW, h]
theorem doW2 {w : Wd} {e : Ev} (h : e.kind = 2) : doW w e = splitW w e := by simp [doW, h]
theorem doW3 {w : Wd} {e : Ev} (h : e.kind = 3) : doW w e = windW w e := by simp [doW, h]
theorem doW4 {w : Wd} {e : Ev} (h : e.kind = 4) : doW w e = upW w e := by simp [doW, h]
theorem carR {n : Int} (h : carOk n = true) : 0 ≤ n ∧ n ≤ 7 := by simpa [carOk] using h
theorem doW_len {w w' : Wd} {e : Ev} (hv : VParts w) (h : doW w e = some w') : w'.bal.length = 8 ∧ w'.lev.length = 8 := by
  have h1 := hv.lb
  have h2 := hv.ll
  unfold doW mergeW splitW windW upW at h
  repeat' (first | (split at h) | (cases h; done))
  all_goals (cases h; simp [endW, windBal, h1, h2])
section
variable {X : Ctx} {N : Nat} {r : Option Nat} {Q : Post} {ds : List Deferred} {a : Tmps}
/-- A world that is being changed is changed no longer: plain data. -/
theorem h_frzW {c : Code} (w : Wd) (f : Bool) (x b1 b2 c1 c2 : Nat) (hb : w.bal.length = 8) (hl : w.lev.length = 8) (h1 : 8 ≤ c1) (h2 : 8 ≤ c2) {rest : AHeap}
    (k : WP Try.prog X N r c Q ds a ((x, .box 106 (cellsW w f false false)) :: rest)) : WP Try.prog X N r c Q ds a (WH w f x b1 b2 c1 c2 ++ rest) := by
  have hdom : ∀ hn : (dom (WH w f x b1 b2 c1 c2 ++ rest)).Nodup, b1 ∉ dom ((x, OB.box 106 (cellsW w f false false)) :: rest) ∧ b2 ∉ dom ((x, OB.box 106 (cellsW w f false false)) :: rest) := by
    intro hn
    simp only [dom, WH, List.cons_append, List.map_cons, List.nil_append, List.nodup_cons, List.mem_cons, not_or] at hn ⊢
    exact ⟨⟨Ne.symm hn.1.1, hn.2.1.2⟩, ⟨Ne.symm hn.1.2.1, hn.2.2.1⟩⟩
  refine h_frzN ((x, .box 106 (cellsW w f false false)) :: rest) (fun hn => ?_) (fun hn b o' ho => ?_) (fun hn t v hv => ⟨v, hv, .refl _⟩) k
  · simp only [dom, List.cons_append, List.map_cons, List.nil_append] at hn ⊢
    have := List.nodup_cons.1 hn
    refine List.nodup_cons.2 ⟨fun hm => this.1 (by simp [hm]), (List.nodup_cons.1 (List.nodup_cons.1 this.2).2).2⟩
  · obtain ⟨hd1, hd2⟩ := hdom hn
    rcases List.mem_cons.1 ho with he | hm
    · cases he
      refine ⟨_, List.mem_cons_self, .box _ _ _ rfl fun i c d hc hd => ?_⟩
      have f1 : FrzA (WH w f x b1 b2 c1 c2 ++ rest) ((x, .box 106 (cellsW w f false false)) :: rest) (.os b1 1 0 8 c1) (V (w.bal.map encI) false) := by
        have := FrzA.os (h := WH w f x b1 b2 c1 c2 ++ rest) (h' := (x, .box 106 (cellsW w f false false)) :: rest) b1 1 0 8 c1 3 (w.bal.map encI) c1 false (by simp) hd1 (by simp [hb]) h1 (by simp)
        rwa [List.drop_zero, List.take_of_length_le (by simp [hb])] at this
      have f2 : FrzA (WH w f x b1 b2 c1 c2 ++ rest) ((x, .box 106 (cellsW w f false false)) :: rest) (.os b2 1 0 8 c2) (V (w.lev.map encI) false) := by
        have := FrzA.os (h := WH w f x b1 b2 c1 c2 ++ rest) (h' := (x, .box 106 (cellsW w f false false)) :: rest) b2 1 0 8 c2 3 (w.lev.map encI) c2 false (by simp) hd2 (by simp [hl]) h2 (by simp)
        rwa [List.drop_zero, List.take_of_length_le (by simp [hl])] at this
      match i with
      | 0 => cases hc; cases hd; exact .refl _
      | 1 => cases hc; cases hd; exact .refl _
      | 2 => cases hc; cases hd; exact .refl _
      | 3 => cases hc; cases hd; exact f1
      | 4 => cases hc; cases hd; exact f2
      | i + 5 => cases hc
    · exact ⟨o', by simp [hm], .refl _⟩
end

abbrev W0 : AV := .agg [I 0, I 0, V [] true, V [] true, V [] true]
/-- What a step gives. -/
abbrev StepR (o : Option Wd) : AEnd → AHeap → Prop := fun E h' => h' = [] ∧ ((∃ w' f, o = some w' ∧ E = .ret (.tup [encW w' f false false, I 0])) ∨ (o = none ∧ E = .ret (.tup [W0, I 420])))

theorem step_spec (w : Wd) (e : Ev) (f1 f2 f3 : Bool) (hv : VParts w) (hbl : w.blocks.length ≤ 1000000000) : FnE Try.prog 30 [encW w f1 f2 f3, encE e] [] (StepR (stepW w e)) := by
  intro X; refine fnX_introD (N := 61) Try.func30 rfl rfl rfl ?_
  skip
  refine h_seq ?_
  refine h_region ?_
  refine o_box rfl rfl (by decide) fun x1 => ?_
  refine o_box rfl rfl (by decide) fun x2 => ?_
  refine o_alloc (by decide) fun x3 => ?_
  refine o_alloc (by decide) fun x4 => ?_
  refine o_nil ?_
  refine h_seq ?_
  refine h_region ?_
  refine o_makeFunc rfl (by decide) ?_
  refine o_defer2 rfl ?_
  refine o_nil ?_
  rcases kind5 e.kind with hk | hk | hk | hk | ⟨hk1, hk2, hk3, hk4⟩
  ·
    refine h_seq ?_
    refine h_draw _ (List.nil_sublist _) [(1, .flo), (2, .val), (0, .new), (3, .sto), (4, .flo)] mixed (by kernel_rfl) ?_
    refine c_flo rfl rfl (fun Xq rq Qq dq kq => o_faddr rfl rfl (by decide) (by decide) kq) ?_
    refine c_val rfl rfl (fun Xq rq Qq dq kq => o_load 2 rfl rfl rfl rfl (by decide) kq) ?_
    refine c_newG (ι := Nat) (fun m => M m) (fun m => [(m, .obj (.map kindsEs (0 + 1 + 1 + 1 + 1)))]) rfl rfl (fun X r Q ds k => o_callA rfl rfl EntC.out (by decide) kinds_spec fun v h' hr => by obtain ⟨m, rfl, rfl⟩ := hr; exact k m) fun m => ?_
    refine c_stov (List.nil_sublist _) rfl rfl (fun Xq rq Qq dq kq => o_lookup 0 rfl rfl rfl (by rw [hk]; exact find1) (rel_fn0 _) (by decide) kq) ?_
    refine c_flo rfl rfl (fun Xq rq Qq dq kq => o_assign rfl (by decide) kq) ?_
    refine c_nil ?_
    refine h_seq ?_
    refine h_region ?_
    refine o_move rfl (by decide) ?_
    refine o_neqf rfl (by decide) ?_
    refine o_move rfl (by decide) ?_
    refine o_guardy rfl rfl rfl (by decide) ?_
    refine o_faddr rfl rfl (by decide) (by decide) ?_
    refine o_guardy rfl rfl rfl (by decide) ?_
    refine o_load 3 rfl rfl rfl rfl (by decide) ?_
    refine o_guardy rfl rfl rfl (by decide) ?_
    refine o_call1 rfl rfl EntC.out (by decide) (isIn_spec _ _ _) ?_
    refine o_pickt rfl rfl rfl (by decide) ?_
    refine o_move rfl (by decide) ?_
    refine o_guard rfl rfl (by decide) (fun g6 => ?_) (fun g6 => ?_)
    ·
      have g6 : _ = true := g6
      refine o_faddr rfl rfl (by decide) (by decide) ?_
      refine o_guardy rfl rfl g6 (by decide) ?_
      refine o_load 3 rfl rfl rfl rfl (by decide) ?_
      refine o_guardy rfl rfl g6 (by decide) ?_
      refine o_call1 rfl rfl EntC.out (by decide) (misCarrier_spec _) ?_
      refine o_pickt rfl g6 rfl (by decide) ?_
      refine o_move rfl (by decide) ?_
      refine o_guard rfl rfl (by decide) (fun g8 => ?_) (fun g8 => ?_)
      ·
        have g8 : _ = true := g8
        refine o_faddr rfl rfl (by decide) (by decide) ?_
        refine o_guardy rfl rfl g8 (by decide) ?_
        refine o_load 3 rfl rfl rfl rfl (by decide) ?_
        refine o_guardy rfl rfl g8 (by decide) ?_
        refine o_call1 rfl rfl EntC.out (by decide) (misCarrier_spec _) ?_
        refine o_pickt rfl g8 rfl (by decide) ?_
        refine o_move rfl (by decide) ?_
        refine o_guard rfl rfl (by decide) (fun g10 => ?_) (fun g10 => ?_)
        ·
          have g10 : _ = true := g10
          refine o_faddr rfl rfl (by decide) (by decide) ?_
          refine o_guardy rfl rfl g10 (by decide) ?_
          refine o_load 3 rfl rfl rfl rfl (by decide) ?_
          refine o_guardy rfl rfl g10 (by decide) ?_
          refine o_call1 rfl rfl EntC.out (by decide) (misCarrier_spec _) ?_
          refine o_pickt rfl g10 rfl (by decide) ?_
          refine o_move rfl (by decide) ?_
          refine o_guard rfl rfl (by decide) (fun g12 => ?_) (fun g12 => ?_)
          ·
            have g12 : _ = true := g12
            refine o_faddr rfl rfl (by decide) (by decide) ?_
            refine o_guardy rfl rfl g12 (by decide) ?_
            refine o_load 4 rfl rfl rfl rfl (by decide) ?_
            refine o_guardy rfl rfl g12 (by decide) ?_
            refine o_faddr rfl rfl (by decide) (by decide) ?_
            refine o_guardy rfl rfl g12 (by decide) ?_
            refine o_load 3 rfl rfl rfl rfl (by decide) ?_
            refine o_guardy rfl rfl g12 (by decide) ?_
            refine o_call1 rfl rfl EntC.out (by decide) (has_spec _ _ (by have := carR (n := e.a) (by simp_all); omega) (by have := carR (n := e.a) (by simp_all); omega)) ?_
            refine o_pickt rfl g12 rfl (by decide) ?_
            refine o_need rfl rfl (by decide) (fun hn42 => ?_) (fun hn42 => ?_)
            rotate_left
            ·
              exact after_one EntC.out (by simp) (perm_mid (p := [(m, .obj (.map kindsEs (0 + 1 + 1 + 1 + 1)))]) (u := [(x4, .box 39 [I 0]), (x3, .box 29 [I 0, I 0, V [] true, V [] true, V [] true])]) (v := [(x2, .box 36 [I e.kind, I e.t, I e.a, I e.b, I e.c, I e.f, I e.to, I e.m]), (x1, .box 29 (cellsW w f1 f2 f3))])) (step1_pan _ _ _ _ _ _ _ _) (fun h1' e' => by subst e'; exact ⟨_, [], .cons (resC 1 rfl rfl rfl) (.cons (resC 0 rfl rfl rfl) .nil), List.nil_sublist _, rfl, .inr ⟨stepW_bad (by simp only [okE]; simp_all), rfl⟩⟩)
            refine o_nil ?_
            refine h_seq ?_
            refine h_region ?_
            refine o_load 4 rfl rfl rfl rfl (by decide) ?_
            have hok : okE w e = true := by simp only [okE]; simp_all
            have hca : carOk e.a = true := by simp_all
            have hcb : carOk e.b = true := by simp_all
            have hcc : carOk e.c = true := by simp_all
            refine o_callN rfl rfl EntC.out (by decide) (copied_spec w f1 f2 f3 hbl hv.lb hv.ll (by intro h0; have := hv.lb; simp [h0] at this) (by intro h0; have := hv.ll; simp [h0] at this)) fun v h' hr => ?_
            obtain ⟨f, b1, b2, c1, c2, hc1, hc2, rfl, rfl⟩ := hr
            refine o_build rfl rfl (by decide) ?_
            refine o_box rfl rfl (by decide) fun x14 => ?_
            refine o_assign rfl (by decide) ?_
            refine o_nil ?_
            refine h_seq ?_
            refine h_region ?_
            refine o_move rfl (by decide) ?_
            refine o_move rfl (by decide) ?_
            refine o_load 6 rfl rfl rfl rfl (by decide) ?_
            refine o_callFE (h2 := [(m, .obj (.map kindsEs (0 + 1 + 1 + 1 + 1))), (x4, .box 39 [I 0]), (x3, .box 29 [I 0, I 0, V [] true, V [] true, V [] true]), (x2, .box 36 [I e.kind, I e.t, I e.a, I e.b, I e.c, I e.f, I e.to, I e.m]), (x1, .box 29 (cellsW w f1 f2 f3))]) rfl rfl rfl EntC.out (by decide) (merge_do w f x14 b1 b2 c1 c2 e hv (carR hca).1 (carR hca).2 (carR hcb).1 (carR hcb).2 (carR hcc).1 (carR hcc).2) (fun v h' hr => ?_) (fun c h' hr => ?_)
            rotate_left
            ·
              obtain ⟨_, _, _, h2, _⟩ | ⟨hd, h2⟩ := hr
              · cases h2
              cases h2
              rw [← doW1 hk] at hd
              rw [show h' ++ [(m, .obj (.map kindsEs (0 + 1 + 1 + 1 + 1))), (x4, .box 39 [I 0]), (x3, .box 29 [I 0, I 0, V [] true, V [] true, V [] true]), (x2, .box 36 [I e.kind, I e.t, I e.a, I e.b, I e.c, I e.f, I e.to, I e.m]), (x1, .box 29 (cellsW w f1 f2 f3))] = (h' ++ [(m, .obj (.map kindsEs (0 + 1 + 1 + 1 + 1)))]) ++ [(x4, .box 39 [I 0]), (x3, .box 29 [I 0, I 0, V [] true, V [] true, V [] true]), (x2, .box 36 [I e.kind, I e.t, I e.a, I e.b, I e.c, I e.f, I e.to, I e.m]), (x1, .box 29 (cellsW w f1 f2 f3))] from by simp]
              exact after_one EntC.out (by simp) (perm_mid (p := h' ++ [(m, .obj (.map kindsEs (0 + 1 + 1 + 1 + 1)))]) (u := [(x4, .box 39 [I 0]), (x3, .box 29 [I 0, I 0, V [] true, V [] true, V [] true])]) (v := [(x2, .box 36 [I e.kind, I e.t, I e.a, I e.b, I e.c, I e.f, I e.to, I e.m]), (x1, .box 29 (cellsW w f1 f2 f3))])) (step1_pan _ _ _ _ _ _ _ _) (fun h1' e' => by subst e'; exact ⟨_, [], .cons (resC 1 rfl rfl rfl) (.cons (resC 0 rfl rfl rfl) .nil), List.nil_sublist _, rfl, .inr ⟨stepW_no hok hd, rfl⟩⟩)
            obtain ⟨w', f', hd, h2, rfl⟩ | ⟨_, h2⟩ := hr
            rotate_left
            · cases h2
            cases h2
            rw [← doW1 hk] at hd
            have hlen := doW_len hv hd
            refine o_nil ?_
            refine h_frzW w' f' x14 b1 b2 c1 c2 hlen.1 hlen.2 hc1 hc2 ?_
            refine h_seq ?_
            refine h_region ?_
            refine o_move rfl (by decide) ?_
            refine o_nilp rfl (by decide) ?_
            refine o_faddr rfl rfl (by decide) (by decide) ?_
            refine o_load 0 rfl rfl rfl rfl (by decide) ?_
            refine o_call1 rfl rfl EntC.out (by decide) (mvalid_spec w' f' false false) ?_
            refine o_need rfl rfl (by decide) (fun hn56 => ?_) (fun hn56 => ?_)
            rotate_left
            ·
              exact after_one EntC.out (by simp) (perm_mid (p := [(x14, .box 106 (cellsW w' f' false false)), (m, .obj (.map kindsEs (0 + 1 + 1 + 1 + 1)))]) (u := [(x4, .box 39 [I 0]), (x3, .box 29 [I 0, I 0, V [] true, V [] true, V [] true])]) (v := [(x2, .box 36 [I e.kind, I e.t, I e.a, I e.b, I e.c, I e.f, I e.to, I e.m]), (x1, .box 29 (cellsW w f1 f2 f3))])) (step1_pan _ _ _ _ _ _ _ _) (fun h1' e' => by subst e'; exact ⟨_, [], .cons (resC 1 rfl rfl rfl) (.cons (resC 0 rfl rfl rfl) .nil), List.nil_sublist _, rfl, .inr ⟨stepW_inv hok hd hn56, rfl⟩⟩)
            refine o_nil ?_
            refine h_seq ?_
            refine h_region ?_
            refine o_move rfl (by decide) ?_
            refine o_nilp rfl (by decide) ?_
            refine o_faddr rfl rfl (by decide) (by decide) ?_
            refine o_load 0 rfl rfl rfl rfl (by decide) ?_
            refine o_store 3 rfl rfl rfl rfl rfl rfl ?_
            refine o_store 2 rfl rfl rfl rfl rfl rfl ?_
            refine o_nil ?_
            refine h_ret ?_
            exact after_one EntC.out (by simp) (perm_mid (p := [(x14, .box 106 (cellsW w' f' false false)), (m, .obj (.map kindsEs (0 + 1 + 1 + 1 + 1)))]) (u := [(x4, .box 39 [I 0]), (x3, .box 29 (cellsW w' f' false false))]) (v := [(x2, .box 36 [I e.kind, I e.t, I e.a, I e.b, I e.c, I e.f, I e.to, I e.m]), (x1, .box 29 (cellsW w f1 f2 f3))])) (step1_ret _ _ _ _ _ _ _ _) (fun h1' e' => by subst e'; exact ⟨_, [], .cons (resC 1 rfl rfl rfl) (.cons (resC 0 rfl rfl rfl) .nil), List.nil_sublist _, rfl, .inl ⟨w', f', stepW_ok hok hd hn56, rfl⟩⟩)
          ·
            have g12 : _ = false := g12
            refine o_guardn rfl rfl g12 (by decide) ?_
            refine o_guardn rfl rfl g12 (by decide) ?_
            refine o_guardn rfl rfl g12 (by decide) ?_
            refine o_guardn rfl rfl g12 (by decide) ?_
            refine o_pickf rfl g12 rfl (by decide) ?_
            refine o_need rfl rfl (by decide) (fun hn42 => absurd hn42 (by simp_all)) (fun hn42 => ?_)
            exact after_one EntC.out (by simp) (perm_mid (p := [(m, .obj (.map kindsEs (0 + 1 + 1 + 1 + 1)))]) (u := [(x4, .box 39 [I 0]), (x3, .box 29 [I 0, I 0, V [] true, V [] true, V [] true])]) (v := [(x2, .box 36 [I e.kind, I e.t, I e.a, I e.b, I e.c, I e.f, I e.to, I e.m]), (x1, .box 29 (cellsW w f1 f2 f3))])) (step1_pan _ _ _ _ _ _ _ _) (fun h1' e' => by subst e'; exact ⟨_, [], .cons (resC 1 rfl rfl rfl) (.cons (resC 0 rfl rfl rfl) .nil), List.nil_sublist _, rfl, .inr ⟨stepW_bad (by simp only [okE]; simp_all), rfl⟩⟩)
        ·
          have g10 : _ = false := g10
          refine o_guardn rfl rfl g10 (by decide) ?_
          refine o_guardn rfl rfl g10 (by decide) ?_
          refine o_pickf rfl g10 rfl (by decide) ?_
          refine o_move rfl (by decide) ?_
          refine o_guardn rfl rfl rfl (by decide) ?_
          refine o_guardn rfl rfl rfl (by decide) ?_
          refine o_guardn rfl rfl rfl (by decide) ?_
          refine o_guardn rfl rfl rfl (by decide) ?_
          refine o_guardn rfl rfl rfl (by decide) ?_
          refine o_pickf rfl rfl rfl (by decide) ?_
          refine o_need rfl rfl (by decide) (fun hn42 => absurd hn42 (by simp_all)) (fun hn42 => ?_)
          exact after_one EntC.out (by simp) (perm_mid (p := [(m, .obj (.map kindsEs (0 + 1 + 1 + 1 + 1)))]) (u := [(x4, .box 39 [I 0]), (x3, .box 29 [I 0, I 0, V [] true, V [] true, V [] true])]) (v := [(x2, .box 36 [I e.kind, I e.t, I e.a, I e.b, I e.c, I e.f, I e.to, I e.m]), (x1, .box 29 (cellsW w f1 f2 f3))])) (step1_pan _ _ _ _ _ _ _ _) (fun h1' e' => by subst e'; exact ⟨_, [], .cons (resC 1 rfl rfl rfl) (.cons (resC 0 rfl rfl rfl) .nil), List.nil_sublist _, rfl, .inr ⟨stepW_bad (by simp only [okE]; simp_all), rfl⟩⟩)
      ·
        have g8 : _ = false := g8
        refine o_guardn rfl rfl g8 (by decide) ?_
        refine o_guardn rfl rfl g8 (by decide) ?_
        refine o_pickf rfl g8 rfl (by decide) ?_
        refine o_move rfl (by decide) ?_
        refine o_guardn rfl rfl rfl (by decide) ?_
        refine o_guardn rfl rfl rfl (by decide) ?_
        refine o_guardn rfl rfl rfl (by decide) ?_
        refine o_pickf rfl rfl rfl (by decide) ?_
        refine o_move rfl (by decide) ?_
        refine o_guardn rfl rfl rfl (by decide) ?_
        refine o_guardn rfl rfl rfl (by decide) ?_
        refine o_guardn rfl rfl rfl (by decide) ?_
        refine o_guardn rfl rfl rfl (by decide) ?_
        refine o_guardn rfl rfl rfl (by decide) ?_
        refine o_pickf rfl rfl rfl (by decide) ?_
        refine o_need rfl rfl (by decide) (fun hn42 => absurd hn42 (by simp_all)) (fun hn42 => ?_)
        exact after_one EntC.out (by simp) (perm_mid (p := [(m, .obj (.map kindsEs (0 + 1 + 1 + 1 + 1)))]) (u := [(x4, .box 39 [I 0]), (x3, .box 29 [I 0, I 0, V [] true, V [] true, V [] true])]) (v := [(x2, .box 36 [I e.kind, I e.t, I e.a, I e.b, I e.c, I e.f, I e.to, I e.m]), (x1, .box 29 (cellsW w f1 f2 f3))])) (step1_pan _ _ _ _ _ _ _ _) (fun h1' e' => by subst e'; exact ⟨_, [], .cons (resC 1 rfl rfl rfl) (.cons (resC 0 rfl rfl rfl) .nil), List.nil_sublist _, rfl, .inr ⟨stepW_bad (by simp only [okE]; simp_all), rfl⟩⟩)
    ·
      have g6 : _ = false := g6
      refine o_guardn rfl rfl g6 (by decide) ?_
      refine o_guardn rfl rfl g6 (by decide) ?_
      refine o_pickf rfl g6 rfl (by decide) ?_
      refine o_move rfl (by decide) ?_
      refine o_guardn rfl rfl rfl (by decide) ?_
      refine o_guardn rfl rfl rfl (by decide) ?_
      refine o_guardn rfl rfl rfl (by decide) ?_
      refine o_pickf rfl rfl rfl (by decide) ?_
      refine o_move rfl (by decide) ?_
      refine o_guardn rfl rfl rfl (by decide) ?_
      refine o_guardn rfl rfl rfl (by decide) ?_
      refine o_guardn rfl rfl rfl (by decide) ?_
      refine o_pickf rfl rfl rfl (by decide) ?_
      refine o_move rfl (by decide) ?_
      refine o_guardn rfl rfl rfl (by decide) ?_
      refine o_guardn rfl rfl rfl (by decide) ?_
      refine o_guardn rfl rfl rfl (by decide) ?_
      refine o_guardn rfl rfl rfl (by decide) ?_
      refine o_guardn rfl rfl rfl (by decide) ?_
      refine o_pickf rfl rfl rfl (by decide) ?_
      refine o_need rfl rfl (by decide) (fun hn42 => absurd hn42 (by simp_all)) (fun hn42 => ?_)
      exact after_one EntC.out (by simp) (perm_mid (p := [(m, .obj (.map kindsEs (0 + 1 + 1 + 1 + 1)))]) (u := [(x4, .box 39 [I 0]), (x3, .box 29 [I 0, I 0, V [] true, V [] true, V [] true])]) (v := [(x2, .box 36 [I e.kind, I e.t, I e.a, I e.b, I e.c, I e.f, I e.to, I e.m]), (x1, .box 29 (cellsW w f1 f2 f3))])) (step1_pan _ _ _ _ _ _ _ _) (fun h1' e' => by subst e'; exact ⟨_, [], .cons (resC 1 rfl rfl rfl) (.cons (resC 0 rfl rfl rfl) .nil), List.nil_sublist _, rfl, .inr ⟨stepW_bad (by simp only [okE]; simp_all), rfl⟩⟩)
  ·
    refine h_seq ?_
    refine h_draw _ (List.nil_sublist _) [(1, .flo), (2, .val), (0, .new), (3, .sto), (4, .flo)] mixed (by kernel_rfl) ?_
    refine c_flo rfl rfl (fun Xq rq Qq dq kq => o_faddr rfl rfl (by decide) (by decide) kq) ?_
    refine c_val rfl rfl (fun Xq rq Qq dq kq => o_load 2 rfl rfl rfl rfl (by decide) kq) ?_
    refine c_newG (ι := Nat) (fun m => M m) (fun m => [(m, .obj (.map kindsEs (0 + 1 + 1 + 1 + 1)))]) rfl rfl (fun X r Q ds k => o_callA rfl rfl EntC.out (by decide) kinds_spec fun v h' hr => by obtain ⟨m, rfl, rfl⟩ := hr; exact k m) fun m => ?_
    refine c_stov (List.nil_sublist _) rfl rfl (fun Xq rq Qq dq kq => o_lookup 0 rfl rfl rfl (by rw [hk]; exact find2) (rel_fn0 _) (by decide) kq) ?_
    refine c_flo rfl rfl (fun Xq rq Qq dq kq => o_assign rfl (by decide) kq) ?_
    refine c_nil ?_
    refine h_seq ?_
    refine h_region ?_
    refine o_move rfl (by decide) ?_
    refine o_neqf rfl (by decide) ?_
    refine o_move rfl (by decide) ?_
    refine o_guardy rfl rfl rfl (by decide) ?_
    refine o_faddr rfl rfl (by decide) (by decide) ?_
    refine o_guardy rfl rfl rfl (by decide) ?_
    refine o_load 3 rfl rfl rfl rfl (by decide) ?_
    refine o_guardy rfl rfl rfl (by decide) ?_
    refine o_call1 rfl rfl EntC.out (by decide) (isIn_spec _ _ _) ?_
    refine o_pickt rfl rfl rfl (by decide) ?_
    refine o_move rfl (by decide) ?_
    refine o_guard rfl rfl (by decide) (fun g17 => ?_) (fun g17 => ?_)
    ·
      have g17 : _ = true := g17
      refine o_faddr rfl rfl (by decide) (by decide) ?_
      refine o_guardy rfl rfl g17 (by decide) ?_
      refine o_load 3 rfl rfl rfl rfl (by decide) ?_
      refine o_guardy rfl rfl g17 (by decide) ?_
      refine o_call1 rfl rfl EntC.out (by decide) (misCarrier_spec _) ?_
      refine o_pickt rfl g17 rfl (by decide) ?_
      refine o_move rfl (by decide) ?_
      refine o_guard rfl rfl (by decide) (fun g19 => ?_) (fun g19 => ?_)
      ·
        have g19 : _ = true := g19
        refine o_faddr rfl rfl (by decide) (by decide) ?_
        refine o_guardy rfl rfl g19 (by decide) ?_
        refine o_load 3 rfl rfl rfl rfl (by decide) ?_
        refine o_guardy rfl rfl g19 (by decide) ?_
        refine o_call1 rfl rfl EntC.out (by decide) (misCarrier_spec _) ?_
        refine o_pickt rfl g19 rfl (by decide) ?_
        refine o_move rfl (by decide) ?_
        refine o_guard rfl rfl (by decide) (fun g21 => ?_) (fun g21 => ?_)
        ·
          have g21 : _ = true := g21
          refine o_faddr rfl rfl (by decide) (by decide) ?_
          refine o_guardy rfl rfl g21 (by decide) ?_
          refine o_load 3 rfl rfl rfl rfl (by decide) ?_
          refine o_guardy rfl rfl g21 (by decide) ?_
          refine o_call1 rfl rfl EntC.out (by decide) (misCarrier_spec _) ?_
          refine o_pickt rfl g21 rfl (by decide) ?_
          refine o_move rfl (by decide) ?_
          refine o_guard rfl rfl (by decide) (fun g23 => ?_) (fun g23 => ?_)
          ·
            have g23 : _ = true := g23
            refine o_faddr rfl rfl (by decide) (by decide) ?_
            refine o_guardy rfl rfl g23 (by decide) ?_
            refine o_load 4 rfl rfl rfl rfl (by decide) ?_
            refine o_guardy rfl rfl g23 (by decide) ?_
            refine o_faddr rfl rfl (by decide) (by decide) ?_
            refine o_guardy rfl rfl g23 (by decide) ?_
            refine o_load 3 rfl rfl rfl rfl (by decide) ?_
            refine o_guardy rfl rfl g23 (by decide) ?_
            refine o_call1 rfl rfl EntC.out (by decide) (has_spec _ _ (by have := carR (n := e.a) (by simp_all); omega) (by have := carR (n := e.a) (by simp_all); omega)) ?_
            refine o_pickt rfl g23 rfl (by decide) ?_
            refine o_need rfl rfl (by decide) (fun hn42 => ?_) (fun hn42 => ?_)
            rotate_left
            ·
              exact after_one EntC.out (by simp) (perm_mid (p := [(m, .obj (.map kindsEs (0 + 1 + 1 + 1 + 1)))]) (u := [(x4, .box 39 [I 0]), (x3, .box 29 [I 0, I 0, V [] true, V [] true, V [] true])]) (v := [(x2, .box 36 [I e.kind, I e.t, I e.a, I e.b, I e.c, I e.f, I e.to, I e.m]), (x1, .box 29 (cellsW w f1 f2 f3))])) (step1_pan _ _ _ _ _ _ _ _) (fun h1' e' => by subst e'; exact ⟨_, [], .cons (resC 1 rfl rfl rfl) (.cons (resC 0 rfl rfl rfl) .nil), List.nil_sublist _, rfl, .inr ⟨stepW_bad (by simp only [okE]; simp_all), rfl⟩⟩)
            refine o_nil ?_
            refine h_seq ?_
            refine h_region ?_
            refine o_load 4 rfl rfl rfl rfl (by decide) ?_
            have hok : okE w e = true := by simp only [okE]; simp_all
            have hca : carOk e.a = true := by simp_all
            have hcb : carOk e.b = true := by simp_all
            have hcc : carOk e.c = true := by simp_all
            refine o_callN rfl rfl EntC.out (by decide) (copied_spec w f1 f2 f3 hbl hv.lb hv.ll (by intro h0; have := hv.lb; simp [h0] at this) (by intro h0; have := hv.ll; simp [h0] at this)) fun v h' hr => ?_
            obtain ⟨f, b1, b2, c1, c2, hc1, hc2, rfl, rfl⟩ := hr
            refine o_build rfl rfl (by decide) ?_
            refine o_box rfl rfl (by decide) fun x25 => ?_
            refine o_assign rfl (by decide) ?_
            refine o_nil ?_
            refine h_seq ?_
            refine h_region ?_
            refine o_move rfl (by decide) ?_
            refine o_move rfl (by decide) ?_
            refine o_load 6 rfl rfl rfl rfl (by decide) ?_
            refine o_callFE (h2 := [(m, .obj (.map kindsEs (0 + 1 + 1 + 1 + 1))), (x4, .box 39 [I 0]), (x3, .box 29 [I 0, I 0, V [] true, V [] true, V [] true]), (x2, .box 36 [I e.kind, I e.t, I e.a, I e.b, I e.c, I e.f, I e.to, I e.m]), (x1, .box 29 (cellsW w f1 f2 f3))]) rfl rfl rfl EntC.out (by decide) (split_do w f x25 b1 b2 c1 c2 e hv (carR hca).1 (carR hca).2 (carR hcb).1 (carR hcb).2 (carR hcc).1 (carR hcc).2) (fun v h' hr => ?_) (fun c h' hr => ?_)
            rotate_left
            ·
              obtain ⟨_, _, _, h2, _⟩ | ⟨hd, h2⟩ := hr
              · cases h2
              cases h2
              rw [← doW2 hk] at hd
              rw [show h' ++ [(m, .obj (.map kindsEs (0 + 1 + 1 + 1 + 1))), (x4, .box 39 [I 0]), (x3, .box 29 [I 0, I 0, V [] true, V [] true, V [] true]), (x2, .box 36 [I e.kind, I e.t, I e.a, I e.b, I e.c, I e.f, I e.to, I e.m]), (x1, .box 29 (cellsW w f1 f2 f3))] = (h' ++ [(m, .obj (.map kindsEs (0 + 1 + 1 + 1 + 1)))]) ++ [(x4, .box 39 [I 0]), (x3, .box 29 [I 0, I 0, V [] true, V [] true, V [] true]), (x2, .box 36 [I e.kind, I e.t, I e.a, I e.b, I e.c, I e.f, I e.to, I e.m]), (x1, .box 29 (cellsW w f1 f2 f3))] from by simp]
              exact after_one EntC.out (by simp) (perm_mid (p := h' ++ [(m, .obj (.map kindsEs (0 + 1 + 1 + 1 + 1)))]) (u := [(x4, .box 39 [I 0]), (x3, .box 29 [I 0, I 0, V [] true, V [] true, V [] true])]) (v := [(x2, .box 36 [I e.kind, I e.t, I e.a, I e.b, I e.c, I e.f, I e.to, I e.m]), (x1, .box 29 (cellsW w f1 f2 f3))])) (step1_pan _ _ _ _ _ _ _ _) (fun h1' e' => by subst e'; exact ⟨_, [], .cons (resC 1 rfl rfl rfl) (.cons (resC 0 rfl rfl rfl) .nil), List.nil_sublist _, rfl, .inr ⟨stepW_no hok hd, rfl⟩⟩)
            obtain ⟨w', f', hd, h2, rfl⟩ | ⟨_, h2⟩ := hr
            rotate_left
            · cases h2
            cases h2
            rw [← doW2 hk] at hd
            have hlen := doW_len hv hd
            refine o_nil ?_
            refine h_frzW w' f' x25 b1 b2 c1 c2 hlen.1 hlen.2 hc1 hc2 ?_
            refine h_seq ?_
            refine h_region ?_
            refine o_move rfl (by decide) ?_
            refine o_nilp rfl (by decide) ?_
            refine o_faddr rfl rfl (by decide) (by decide) ?_
            refine o_load 0 rfl rfl rfl rfl (by decide) ?_
            refine o_call1 rfl rfl EntC.out (by decide) (mvalid_spec w' f' false false) ?_
            refine o_need rfl rfl (by decide) (fun hn56 => ?_) (fun hn56 => ?_)
            rotate_left
            ·
              exact after_one EntC.out (by simp) (perm_mid (p := [(x25, .box 106 (cellsW w' f' false false)), (m, .obj (.map kindsEs (0 + 1 + 1 + 1 + 1)))]) (u := [(x4, .box 39 [I 0]), (x3, .box 29 [I 0, I 0, V [] true, V [] true, V [] true])]) (v := [(x2, .box 36 [I e.kind, I e.t, I e.a, I e.b, I e.c, I e.f, I e.to, I e.m]), (x1, .box 29 (cellsW w f1 f2 f3))])) (step1_pan _ _ _ _ _ _ _ _) (fun h1' e' => by subst e'; exact ⟨_, [], .cons (resC 1 rfl rfl rfl) (.cons (resC 0 rfl rfl rfl) .nil), List.nil_sublist _, rfl, .inr ⟨stepW_inv hok hd hn56, rfl⟩⟩)
            refine o_nil ?_
            refine h_seq ?_
            refine h_region ?_
            refine o_move rfl (by decide) ?_
            refine o_nilp rfl (by decide) ?_
            refine o_faddr rfl rfl (by decide) (by decide) ?_
            refine o_load 0 rfl rfl rfl rfl (by decide) ?_
            refine o_store 3 rfl rfl rfl rfl rfl rfl ?_
            refine o_store 2 rfl rfl rfl rfl rfl rfl ?_
            refine o_nil ?_
            refine h_ret ?_
            exact after_one EntC.out (by simp) (perm_mid (p := [(x25, .box 106 (cellsW w' f' false false)), (m, .obj (.map kindsEs (0 + 1 + 1 + 1 + 1)))]) (u := [(x4, .box 39 [I 0]), (x3, .box 29 (cellsW w' f' false false))]) (v := [(x2, .box 36 [I e.kind, I e.t, I e.a, I e.b, I e.c, I e.f, I e.to, I e.m]), (x1, .box 29 (cellsW w f1 f2 f3))])) (step1_ret _ _ _ _ _ _ _ _) (fun h1' e' => by subst e'; exact ⟨_, [], .cons (resC 1 rfl rfl rfl) (.cons (resC 0 rfl rfl rfl) .nil), List.nil_sublist _, rfl, .inl ⟨w', f', stepW_ok hok hd hn56, rfl⟩⟩)
          ·
            have g23 : _ = false := g23
            refine o_guardn rfl rfl g23 (by decide) ?_
            refine o_guardn rfl rfl g23 (by decide) ?_
            refine o_guardn rfl rfl g23 (by decide) ?_
            refine o_guardn rfl rfl g23 (by decide) ?_
            refine o_pickf rfl g23 rfl (by decide) ?_
            refine o_need rfl rfl (by decide) (fun hn42 => absurd hn42 (by simp_all)) (fun hn42 => ?_)
            exact after_one EntC.out (by simp) (perm_mid (p := [(m, .obj (.map kindsEs (0 + 1 + 1 + 1 + 1)))]) (u := [(x4, .box 39 [I 0]), (x3, .box 29 [I 0, I 0, V [] true, V [] true, V [] true])]) (v := [(x2, .box 36 [I e.kind, I e.t, I e.a, I e.b, I e.c, I e.f, I e.to, I e.m]), (x1, .box 29 (cellsW w f1 f2 f3))])) (step1_pan _ _ _ _ _ _ _ _) (fun h1' e' => by subst e'; exact ⟨_, [], .cons (resC 1 rfl rfl rfl) (.cons (resC 0 rfl rfl rfl) .nil), List.nil_sublist _, rfl, .inr ⟨stepW_bad (by simp only [okE]; simp_all), rfl⟩⟩)
        ·
          have g21 : _ = false := g21
          refine o_guardn rfl rfl g21 (by decide) ?_
          refine o_guardn rfl rfl g21 (by decide) ?_
          refine o_pickf rfl g21 rfl (by decide) ?_
          refine o_move rfl (by decide) ?_
          refine o_guardn rfl rfl rfl (by decide) ?_
          refine o_guardn rfl rfl rfl (by decide) ?_
          refine o_guardn rfl rfl rfl (by decide) ?_
          refine o_guardn rfl rfl rfl (by decide) ?_
          refine o_guardn rfl rfl rfl (by decide) ?_
          refine o_pickf rfl rfl rfl (by decide) ?_
          refine o_need rfl rfl (by decide) (fun hn42 => absurd hn42 (by simp_all)) (fun hn42 => ?_)
          exact after_one EntC.out (by simp) (perm_mid (p := [(m, .obj (.map kindsEs (0 + 1 + 1 + 1 + 1)))]) (u := [(x4, .box 39 [I 0]), (x3, .box 29 [I 0, I 0, V [] true, V [] true, V [] true])]) (v := [(x2, .box 36 [I e.kind, I e.t, I e.a, I e.b, I e.c, I e.f, I e.to, I e.m]), (x1, .box 29 (cellsW w f1 f2 f3))])) (step1_pan _ _ _ _ _ _ _ _) (fun h1' e' => by subst e'; exact ⟨_, [], .cons (resC 1 rfl rfl rfl) (.cons (resC 0 rfl rfl rfl) .nil), List.nil_sublist _, rfl, .inr ⟨stepW_bad (by simp only [okE]; simp_all), rfl⟩⟩)
      ·
        have g19 : _ = false := g19
        refine o_guardn rfl rfl g19 (by decide) ?_
        refine o_guardn rfl rfl g19 (by decide) ?_
        refine o_pickf rfl g19 rfl (by decide) ?_
        refine o_move rfl (by decide) ?_
        refine o_guardn rfl rfl rfl (by decide) ?_
        refine o_guardn rfl rfl rfl (by decide) ?_
        refine o_guardn rfl rfl rfl (by decide) ?_
        refine o_pickf rfl rfl rfl (by decide) ?_
        refine o_move rfl (by decide) ?_
        refine o_guardn rfl rfl rfl (by decide) ?_
        refine o_guardn rfl rfl rfl (by decide) ?_
        refine o_guardn rfl rfl rfl (by decide) ?_
        refine o_guardn rfl rfl rfl (by decide) ?_
        refine o_guardn rfl rfl rfl (by decide) ?_
        refine o_pickf rfl rfl rfl (by decide) ?_
        refine o_need rfl rfl (by decide) (fun hn42 => absurd hn42 (by simp_all)) (fun hn42 => ?_)
        exact after_one EntC.out (by simp) (perm_mid (p := [(m, .obj (.map kindsEs (0 + 1 + 1 + 1 + 1)))]) (u := [(x4, .box 39 [I 0]), (x3, .box 29 [I 0, I 0, V [] true, V [] true, V [] true])]) (v := [(x2, .box 36 [I e.kind, I e.t, I e.a, I e.b, I e.c, I e.f, I e.to, I e.m]), (x1, .box 29 (cellsW w f1 f2 f3))])) (step1_pan _ _ _ _ _ _ _ _) (fun h1' e' => by subst e'; exact ⟨_, [], .cons (resC 1 rfl rfl rfl) (.cons (resC 0 rfl rfl rfl) .nil), List.nil_sublist _, rfl, .inr ⟨stepW_bad (by simp only [okE]; simp_all), rfl⟩⟩)
    ·
      have g17 : _ = false := g17
      refine o_guardn rfl rfl g17 (by decide) ?_
      refine o_guardn rfl rfl g17 (by decide) ?_
      refine o_pickf rfl g17 rfl (by decide) ?_
      refine o_move rfl (by decide) ?_
      refine o_guardn rfl rfl rfl (by decide) ?_
      refine o_guardn rfl rfl rfl (by decide) ?_
      refine o_guardn rfl rfl rfl (by decide) ?_
      refine o_pickf rfl rfl rfl (by decide) ?_
      refine o_move rfl (by decide) ?_
      refine o_guardn rfl rfl rfl (by decide) ?_
      refine o_guardn rfl rfl rfl (by decide) ?_
      refine o_guardn rfl rfl rfl (by decide) ?_
      refine o_pickf rfl rfl rfl (by decide) ?_
      refine o_move rfl (by decide) ?_
      refine o_guardn rfl rfl rfl (by decide) ?_
      refine o_guardn rfl rfl rfl (by decide) ?_
      refine o_guardn rfl rfl rfl (by decide) ?_
      refine o_guardn rfl rfl rfl (by decide) ?_
      refine o_guardn rfl rfl rfl (by decide) ?_
      refine o_pickf rfl rfl rfl (by decide) ?_
      refine o_need rfl rfl (by decide) (fun hn42 => absurd hn42 (by simp_all)) (fun hn42 => ?_)
      exact after_one EntC.out (by simp) (perm_mid (p := [(m, .obj (.map kindsEs (0 + 1 + 1 + 1 + 1)))]) (u := [(x4, .box 39 [I 0]), (x3, .box 29 [I 0, I 0, V [] true, V [] true, V [] true])]) (v := [(x2, .box 36 [I e.kind, I e.t, I e.a, I e.b, I e.c, I e.f, I e.to, I e.m]), (x1, .box 29 (cellsW w f1 f2 f3))])) (step1_pan _ _ _ _ _ _ _ _) (fun h1' e' => by subst e'; exact ⟨_, [], .cons (resC 1 rfl rfl rfl) (.cons (resC 0 rfl rfl rfl) .nil), List.nil_sublist _, rfl, .inr ⟨stepW_bad (by simp only [okE]; simp_all), rfl⟩⟩)
  ·
    refine h_seq ?_
    refine h_draw _ (List.nil_sublist _) [(1, .flo), (2, .val), (0, .new), (3, .sto), (4, .flo)] mixed (by kernel_rfl) ?_
    refine c_flo rfl rfl (fun Xq rq Qq dq kq => o_faddr rfl rfl (by decide) (by decide) kq) ?_
    refine c_val rfl rfl (fun Xq rq Qq dq kq => o_load 2 rfl rfl rfl rfl (by decide) kq) ?_
    refine c_newG (ι := Nat) (fun m => M m) (fun m => [(m, .obj (.map kindsEs (0 + 1 + 1 + 1 + 1)))]) rfl rfl (fun X r Q ds k => o_callA rfl rfl EntC.out (by decide) kinds_spec fun v h' hr => by obtain ⟨m, rfl, rfl⟩ := hr; exact k m) fun m => ?_
    refine c_stov (List.nil_sublist _) rfl rfl (fun Xq rq Qq dq kq => o_lookup 0 rfl rfl rfl (by rw [hk]; exact find3) (rel_fn0 _) (by decide) kq) ?_
    refine c_flo rfl rfl (fun Xq rq Qq dq kq => o_assign rfl (by decide) kq) ?_
    refine c_nil ?_
    refine h_seq ?_
    refine h_region ?_
    refine o_move rfl (by decide) ?_
    refine o_neqf rfl (by decide) ?_
    refine o_move rfl (by decide) ?_
    refine o_guardy rfl rfl rfl (by decide) ?_
    refine o_faddr rfl rfl (by decide) (by decide) ?_
    refine o_guardy rfl rfl rfl (by decide) ?_
    refine o_load 3 rfl rfl rfl rfl (by decide) ?_
    refine o_guardy rfl rfl rfl (by decide) ?_
    refine o_call1 rfl rfl EntC.out (by decide) (isIn_spec _ _ _) ?_
    refine o_pickt rfl rfl rfl (by decide) ?_
    refine o_move rfl (by decide) ?_
    refine o_guard rfl rfl (by decide) (fun g28 => ?_) (fun g28 => ?_)
    ·
      have g28 : _ = true := g28
      refine o_faddr rfl rfl (by decide) (by decide) ?_
      refine o_guardy rfl rfl g28 (by decide) ?_
      refine o_load 3 rfl rfl rfl rfl (by decide) ?_
      refine o_guardy rfl rfl g28 (by decide) ?_
      refine o_call1 rfl rfl EntC.out (by decide) (misCarrier_spec _) ?_
      refine o_pickt rfl g28 rfl (by decide) ?_
      refine o_move rfl (by decide) ?_
      refine o_guard rfl rfl (by decide) (fun g30 => ?_) (fun g30 => ?_)
      ·
        have g30 : _ = true := g30
        refine o_faddr rfl rfl (by decide) (by decide) ?_
        refine o_guardy rfl rfl g30 (by decide) ?_
        refine o_load 3 rfl rfl rfl rfl (by decide) ?_
        refine o_guardy rfl rfl g30 (by decide) ?_
        refine o_call1 rfl rfl EntC.out (by decide) (misCarrier_spec _) ?_
        refine o_pickt rfl g30 rfl (by decide) ?_
        refine o_move rfl (by decide) ?_
        refine o_guard rfl rfl (by decide) (fun g32 => ?_) (fun g32 => ?_)
        ·
          have g32 : _ = true := g32
          refine o_faddr rfl rfl (by decide) (by decide) ?_
          refine o_guardy rfl rfl g32 (by decide) ?_
          refine o_load 3 rfl rfl rfl rfl (by decide) ?_
          refine o_guardy rfl rfl g32 (by decide) ?_
          refine o_call1 rfl rfl EntC.out (by decide) (misCarrier_spec _) ?_
          refine o_pickt rfl g32 rfl (by decide) ?_
          refine o_move rfl (by decide) ?_
          refine o_guard rfl rfl (by decide) (fun g34 => ?_) (fun g34 => ?_)
          ·
            have g34 : _ = true := g34
            refine o_faddr rfl rfl (by decide) (by decide) ?_
            refine o_guardy rfl rfl g34 (by decide) ?_
            refine o_load 4 rfl rfl rfl rfl (by decide) ?_
            refine o_guardy rfl rfl g34 (by decide) ?_
            refine o_faddr rfl rfl (by decide) (by decide) ?_
            refine o_guardy rfl rfl g34 (by decide) ?_
            refine o_load 3 rfl rfl rfl rfl (by decide) ?_
            refine o_guardy rfl rfl g34 (by decide) ?_
            refine o_call1 rfl rfl EntC.out (by decide) (has_spec _ _ (by have := carR (n := e.a) (by simp_all); omega) (by have := carR (n := e.a) (by simp_all); omega)) ?_
            refine o_pickt rfl g34 rfl (by decide) ?_
            refine o_need rfl rfl (by decide) (fun hn42 => ?_) (fun hn42 => ?_)
            rotate_left
            ·
              exact after_one EntC.out (by simp) (perm_mid (p := [(m, .obj (.map kindsEs (0 + 1 + 1 + 1 + 1)))]) (u := [(x4, .box 39 [I 0]), (x3, .box 29 [I 0, I 0, V [] true, V [] true, V [] true])]) (v := [(x2, .box 36 [I e.kind, I e.t, I e.a, I e.b, I e.c, I e.f, I e.to, I e.m]), (x1, .box 29 (cellsW w f1 f2 f3))])) (step1_pan _ _ _ _ _ _ _ _) (fun h1' e' => by subst e'; exact ⟨_, [], .cons (resC 1 rfl rfl rfl) (.cons (resC 0 rfl rfl rfl) .nil), List.nil_sublist _, rfl, .inr ⟨stepW_bad (by simp only [okE]; simp_all), rfl⟩⟩)
            refine o_nil ?_
            refine h_seq ?_
            refine h_region ?_
            refine o_load 4 rfl rfl rfl rfl (by decide) ?_
            have hok : okE w e = true := by simp only [okE]; simp_all
            have hca : carOk e.a = true := by simp_all
            have hcb : carOk e.b = true := by simp_all
            have hcc : carOk e.c = true := by simp_all
            refine o_callN rfl rfl EntC.out (by decide) (copied_spec w f1 f2 f3 hbl hv.lb hv.ll (by intro h0; have := hv.lb; simp [h0] at this) (by intro h0; have := hv.ll; simp [h0] at this)) fun v h' hr => ?_
            obtain ⟨f, b1, b2, c1, c2, hc1, hc2, rfl, rfl⟩ := hr
            refine o_build rfl rfl (by decide) ?_
            refine o_box rfl rfl (by decide) fun x36 => ?_
            refine o_assign rfl (by decide) ?_
            refine o_nil ?_
            refine h_seq ?_
            refine h_region ?_
            refine o_move rfl (by decide) ?_
            refine o_move rfl (by decide) ?_
            refine o_load 6 rfl rfl rfl rfl (by decide) ?_
            refine o_callFE (h2 := [(m, .obj (.map kindsEs (0 + 1 + 1 + 1 + 1))), (x4, .box 39 [I 0]), (x3, .box 29 [I 0, I 0, V [] true, V [] true, V [] true]), (x2, .box 36 [I e.kind, I e.t, I e.a, I e.b, I e.c, I e.f, I e.to, I e.m]), (x1, .box 29 (cellsW w f1 f2 f3))]) rfl rfl rfl EntC.out (by decide) (windUp_do w f x36 b1 b2 c1 c2 e hv (carR hca).1 (carR hca).2 (carR hcb).1 (carR hcb).2 (carR hcc).1 (carR hcc).2) (fun v h' hr => ?_) (fun c h' hr => ?_)
            rotate_left
            ·
              obtain ⟨_, _, _, h2, _⟩ | ⟨hd, h2⟩ := hr
              · cases h2
              cases h2
              rw [← doW3 hk] at hd
              rw [show h' ++ [(m, .obj (.map kindsEs (0 + 1 + 1 + 1 + 1))), (x4, .box 39 [I 0]), (x3, .box 29 [I 0, I 0, V [] true, V [] true, V [] true]), (x2, .box 36 [I e.kind, I e.t, I e.a, I e.b, I e.c, I e.f, I e.to, I e.m]), (x1, .box 29 (cellsW w f1 f2 f3))] = (h' ++ [(m, .obj (.map kindsEs (0 + 1 + 1 + 1 + 1)))]) ++ [(x4, .box 39 [I 0]), (x3, .box 29 [I 0, I 0, V [] true, V [] true, V [] true]), (x2, .box 36 [I e.kind, I e.t, I e.a, I e.b, I e.c, I e.f, I e.to, I e.m]), (x1, .box 29 (cellsW w f1 f2 f3))] from by simp]
              exact after_one EntC.out (by simp) (perm_mid (p := h' ++ [(m, .obj (.map kindsEs (0 + 1 + 1 + 1 + 1)))]) (u := [(x4, .box 39 [I 0]), (x3, .box 29 [I 0, I 0, V [] true, V [] true, V [] true])]) (v := [(x2, .box 36 [I e.kind, I e.t, I e.a, I e.b, I e.c, I e.f, I e.to, I e.m]), (x1, .box 29 (cellsW w f1 f2 f3))])) (step1_pan _ _ _ _ _ _ _ _) (fun h1' e' => by subst e'; exact ⟨_, [], .cons (resC 1 rfl rfl rfl) (.cons (resC 0 rfl rfl rfl) .nil), List.nil_sublist _, rfl, .inr ⟨stepW_no hok hd, rfl⟩⟩)
            obtain ⟨w', f', hd, h2, rfl⟩ | ⟨_, h2⟩ := hr
            rotate_left
            · cases h2
            cases h2
            rw [← doW3 hk] at hd
            have hlen := doW_len hv hd
            refine o_nil ?_
            refine h_frzW w' f' x36 b1 b2 c1 c2 hlen.1 hlen.2 hc1 hc2 ?_
            refine h_seq ?_
            refine h_region ?_
            refine o_move rfl (by decide) ?_
            refine o_nilp rfl (by decide) ?_
            refine o_faddr rfl rfl (by decide) (by decide) ?_
            refine o_load 0 rfl rfl rfl rfl (by decide) ?_
            refine o_call1 rfl rfl EntC.out (by decide) (mvalid_spec w' f' false false) ?_
            refine o_need rfl rfl (by decide) (fun hn56 => ?_) (fun hn56 => ?_)
            rotate_left
            ·
              exact after_one EntC.out (by simp) (perm_mid (p := [(x36, .box 106 (cellsW w' f' false false)), (m, .obj (.map kindsEs (0 + 1 + 1 + 1 + 1)))]) (u := [(x4, .box 39 [I 0]), (x3, .box 29 [I 0, I 0, V [] true, V [] true, V [] true])]) (v := [(x2, .box 36 [I e.kind, I e.t, I e.a, I e.b, I e.c, I e.f, I e.to, I e.m]), (x1, .box 29 (cellsW w f1 f2 f3))])) (step1_pan _ _ _ _ _ _ _ _) (fun h1' e' => by subst e'; exact ⟨_, [], .cons (resC 1 rfl rfl rfl) (.cons (resC 0 rfl rfl rfl) .nil), List.nil_sublist _, rfl, .inr ⟨stepW_inv hok hd hn56, rfl⟩⟩)
            refine o_nil ?_
            refine h_seq ?_
            refine h_region ?_
            refine o_move rfl (by decide) ?_
            refine o_nilp rfl (by decide) ?_
            refine o_faddr rfl rfl (by decide) (by decide) ?_
            refine o_load 0 rfl rfl rfl rfl (by decide) ?_
            refine o_store 3 rfl rfl rfl rfl rfl rfl ?_
            refine o_store 2 rfl rfl rfl rfl rfl rfl ?_
            refine o_nil ?_
            refine h_ret ?_
            exact after_one EntC.out (by simp) (perm_mid (p := [(x36, .box 106 (cellsW w' f' false false)), (m, .obj (.map kindsEs (0 + 1 + 1 + 1 + 1)))]) (u := [(x4, .box 39 [I 0]), (x3, .box 29 (cellsW w' f' false false))]) (v := [(x2, .box 36 [I e.kind, I e.t, I e.a, I e.b, I e.c, I e.f, I e.to, I e.m]), (x1, .box 29 (cellsW w f1 f2 f3))])) (step1_ret _ _ _ _ _ _ _ _) (fun h1' e' => by subst e'; exact ⟨_, [], .cons (resC 1 rfl rfl rfl) (.cons (resC 0 rfl rfl rfl) .nil), List.nil_sublist _, rfl, .inl ⟨w', f', stepW_ok hok hd hn56, rfl⟩⟩)
          ·
            have g34 : _ = false := g34
            refine o_guardn rfl rfl g34 (by decide) ?_
            refine o_guardn rfl rfl g34 (by decide) ?_
            refine o_guardn rfl rfl g34 (by decide) ?_
            refine o_guardn rfl rfl g34 (by decide) ?_
            refine o_pickf rfl g34 rfl (by decide) ?_
            refine o_need rfl rfl (by decide) (fun hn42 => absurd hn42 (by simp_all)) (fun hn42 => ?_)
            exact after_one EntC.out (by simp) (perm_mid (p := [(m, .obj (.map kindsEs (0 + 1 + 1 + 1 + 1)))]) (u := [(x4, .box 39 [I 0]), (x3, .box 29 [I 0, I 0, V [] true, V [] true, V [] true])]) (v := [(x2, .box 36 [I e.kind, I e.t, I e.a, I e.b, I e.c, I e.f, I e.to, I e.m]), (x1, .box 29 (cellsW w f1 f2 f3))])) (step1_pan _ _ _ _ _ _ _ _) (fun h1' e' => by subst e'; exact ⟨_, [], .cons (resC 1 rfl rfl rfl) (.cons (resC 0 rfl rfl rfl) .nil), List.nil_sublist _, rfl, .inr ⟨stepW_bad (by simp only [okE]; simp_all), rfl⟩⟩)
        ·
          have g32 : _ = false := g32
          refine o_guardn rfl rfl g32 (by decide) ?_
          refine o_guardn rfl rfl g32 (by decide) ?_
          refine o_pickf rfl g32 rfl (by decide) ?_
          refine o_move rfl (by decide) ?_
          refine o_guardn rfl rfl rfl (by decide) ?_
          refine o_guardn rfl rfl rfl (by decide) ?_
          refine o_guardn rfl rfl rfl (by decide) ?_
          refine o_guardn rfl rfl rfl (by decide) ?_
          refine o_guardn rfl rfl rfl (by decide) ?_
          refine o_pickf rfl rfl rfl (by decide) ?_
          refine o_need rfl rfl (by decide) (fun hn42 => absurd hn42 (by simp_all)) (fun hn42 => ?_)
          exact after_one EntC.out (by simp) (perm_mid (p := [(m, .obj (.map kindsEs (0 + 1 + 1 + 1 + 1)))]) (u := [(x4, .box 39 [I 0]), (x3, .box 29 [I 0, I 0, V [] true, V [] true, V [] true])]) (v := [(x2, .box 36 [I e.kind, I e.t, I e.a, I e.b, I e.c, I e.f, I e.to, I e.m]), (x1, .box 29 (cellsW w f1 f2 f3))])) (step1_pan _ _ _ _ _ _ _ _) (fun h1' e' => by subst e'; exact ⟨_, [], .cons (resC 1 rfl rfl rfl) (.cons (resC 0 rfl rfl rfl) .nil), List.nil_sublist _, rfl, .inr ⟨stepW_bad (by simp only [okE]; simp_all), rfl⟩⟩)
      ·
        have g30 : _ = false := g30
        refine o_guardn rfl rfl g30 (by decide) ?_
        refine o_guardn rfl rfl g30 (by decide) ?_
        refine o_pickf rfl g30 rfl (by decide) ?_
        refine o_move rfl (by decide) ?_
        refine o_guardn rfl rfl rfl (by decide) ?_
        refine o_guardn rfl rfl rfl (by decide) ?_
        refine o_guardn rfl rfl rfl (by decide) ?_
        refine o_pickf rfl rfl rfl (by decide) ?_
        refine o_move rfl (by decide) ?_
        refine o_guardn rfl rfl rfl (by decide) ?_
        refine o_guardn rfl rfl rfl (by decide) ?_
        refine o_guardn rfl rfl rfl (by decide) ?_
        refine o_guardn rfl rfl rfl (by decide) ?_
        refine o_guardn rfl rfl rfl (by decide) ?_
        refine o_pickf rfl rfl rfl (by decide) ?_
        refine o_need rfl rfl (by decide) (fun hn42 => absurd hn42 (by simp_all)) (fun hn42 => ?_)
        exact after_one EntC.out (by simp) (perm_mid (p := [(m, .obj (.map kindsEs (0 + 1 + 1 + 1 + 1)))]) (u := [(x4, .box 39 [I 0]), (x3, .box 29 [I 0, I 0, V [] true, V [] true, V [] true])]) (v := [(x2, .box 36 [I e.kind, I e.t, I e.a, I e.b, I e.c, I e.f, I e.to, I e.m]), (x1, .box 29 (cellsW w f1 f2 f3))])) (step1_pan _ _ _ _ _ _ _ _) (fun h1' e' => by subst e'; exact ⟨_, [], .cons (resC 1 rfl rfl rfl) (.cons (resC 0 rfl rfl rfl) .nil), List.nil_sublist _, rfl, .inr ⟨stepW_bad (by simp only [okE]; simp_all), rfl⟩⟩)
    ·
      have g28 : _ = false := g28
      refine o_guardn rfl rfl g28 (by decide) ?_
      refine o_guardn rfl rfl g28 (by decide) ?_
      refine o_pickf rfl g28 rfl (by decide) ?_
      refine o_move rfl (by decide) ?_
      refine o_guardn rfl rfl rfl (by decide) ?_
      refine o_guardn rfl rfl rfl (by decide) ?_
      refine o_guardn rfl rfl rfl (by decide) ?_
      refine o_pickf rfl rfl rfl (by decide) ?_
      refine o_move rfl (by decide) ?_
      refine o_guardn rfl rfl rfl (by decide) ?_
      refine o_guardn rfl rfl rfl (by decide) ?_
      refine o_guardn rfl rfl rfl (by decide) ?_
      refine o_pickf rfl rfl rfl (by decide) ?_
      refine o_move rfl (by decide) ?_
      refine o_guardn rfl rfl rfl (by decide) ?_
      refine o_guardn rfl rfl rfl (by decide) ?_
      refine o_guardn rfl rfl rfl (by decide) ?_
      refine o_guardn rfl rfl rfl (by decide) ?_
      refine o_guardn rfl rfl rfl (by decide) ?_
      refine o_pickf rfl rfl rfl (by decide) ?_
      refine o_need rfl rfl (by decide) (fun hn42 => absurd hn42 (by simp_all)) (fun hn42 => ?_)
      exact after_one EntC.out (by simp) (perm_mid (p := [(m, .obj (.map kindsEs (0 + 1 + 1 + 1 + 1)))]) (u := [(x4, .box 39 [I 0]), (x3, .box 29 [I 0, I 0, V [] true, V [] true, V [] true])]) (v := [(x2, .box 36 [I e.kind, I e.t, I e.a, I e.b, I e.c, I e.f, I e.to, I e.m]), (x1, .box 29 (cellsW w f1 f2 f3))])) (step1_pan _ _ _ _ _ _ _ _) (fun h1' e' => by subst e'; exact ⟨_, [], .cons (resC 1 rfl rfl rfl) (.cons (resC 0 rfl rfl rfl) .nil), List.nil_sublist _, rfl, .inr ⟨stepW_bad (by simp only [okE]; simp_all), rfl⟩⟩)
  ·
    refine h_seq ?_
    refine h_draw _ (List.nil_sublist _) [(1, .flo), (2, .val), (0, .new), (3, .sto), (4, .flo)] mixed (by kernel_rfl) ?_
    refine c_flo rfl rfl (fun Xq rq Qq dq kq => o_faddr rfl rfl (by decide) (by decide) kq) ?_
    refine c_val rfl rfl (fun Xq rq Qq dq kq => o_load 2 rfl rfl rfl rfl (by decide) kq) ?_
    refine c_newG (ι := Nat) (fun m => M m) (fun m => [(m, .obj (.map kindsEs (0 + 1 + 1 + 1 + 1)))]) rfl rfl (fun X r Q ds k => o_callA rfl rfl EntC.out (by decide) kinds_spec fun v h' hr => by obtain ⟨m, rfl, rfl⟩ := hr; exact k m) fun m => ?_
    refine c_stov (List.nil_sublist _) rfl rfl (fun Xq rq Qq dq kq => o_lookup 0 rfl rfl rfl (by rw [hk]; exact find4) (rel_fn0 _) (by decide) kq) ?_
    refine c_flo rfl rfl (fun Xq rq Qq dq kq => o_assign rfl (by decide) kq) ?_
    refine c_nil ?_
    refine h_seq ?_
    refine h_region ?_
    refine o_move rfl (by decide) ?_
    refine o_neqf rfl (by decide) ?_
    refine o_move rfl (by decide) ?_
    refine o_guardy rfl rfl rfl (by decide) ?_
    refine o_faddr rfl rfl (by decide) (by decide) ?_
    refine o_guardy rfl rfl rfl (by decide) ?_
    refine o_load 3 rfl rfl rfl rfl (by decide) ?_
    refine o_guardy rfl rfl rfl (by decide) ?_
    refine o_call1 rfl rfl EntC.out (by decide) (isIn_spec _ _ _) ?_
    refine o_pickt rfl rfl rfl (by decide) ?_
    refine o_move rfl (by decide) ?_
    refine o_guard rfl rfl (by decide) (fun g39 => ?_) (fun g39 => ?_)
    ·
      have g39 : _ = true := g39
      refine o_faddr rfl rfl (by decide) (by decide) ?_
      refine o_guardy rfl rfl g39 (by decide) ?_
      refine o_load 3 rfl rfl rfl rfl (by decide) ?_
      refine o_guardy rfl rfl g39 (by decide) ?_
      refine o_call1 rfl rfl EntC.out (by decide) (misCarrier_spec _) ?_
      refine o_pickt rfl g39 rfl (by decide) ?_
      refine o_move rfl (by decide) ?_
      refine o_guard rfl rfl (by decide) (fun g41 => ?_) (fun g41 => ?_)
      ·
        have g41 : _ = true := g41
        refine o_faddr rfl rfl (by decide) (by decide) ?_
        refine o_guardy rfl rfl g41 (by decide) ?_
        refine o_load 3 rfl rfl rfl rfl (by decide) ?_
        refine o_guardy rfl rfl g41 (by decide) ?_
        refine o_call1 rfl rfl EntC.out (by decide) (misCarrier_spec _) ?_
        refine o_pickt rfl g41 rfl (by decide) ?_
        refine o_move rfl (by decide) ?_
        refine o_guard rfl rfl (by decide) (fun g43 => ?_) (fun g43 => ?_)
        ·
          have g43 : _ = true := g43
          refine o_faddr rfl rfl (by decide) (by decide) ?_
          refine o_guardy rfl rfl g43 (by decide) ?_
          refine o_load 3 rfl rfl rfl rfl (by decide) ?_
          refine o_guardy rfl rfl g43 (by decide) ?_
          refine o_call1 rfl rfl EntC.out (by decide) (misCarrier_spec _) ?_
          refine o_pickt rfl g43 rfl (by decide) ?_
          refine o_move rfl (by decide) ?_
          refine o_guard rfl rfl (by decide) (fun g45 => ?_) (fun g45 => ?_)
          ·
            have g45 : _ = true := g45
            refine o_faddr rfl rfl (by decide) (by decide) ?_
            refine o_guardy rfl rfl g45 (by decide) ?_
            refine o_load 4 rfl rfl rfl rfl (by decide) ?_
            refine o_guardy rfl rfl g45 (by decide) ?_
            refine o_faddr rfl rfl (by decide) (by decide) ?_
            refine o_guardy rfl rfl g45 (by decide) ?_
            refine o_load 3 rfl rfl rfl rfl (by decide) ?_
            refine o_guardy rfl rfl g45 (by decide) ?_
            refine o_call1 rfl rfl EntC.out (by decide) (has_spec _ _ (by have := carR (n := e.a) (by simp_all); omega) (by have := carR (n := e.a) (by simp_all); omega)) ?_
            refine o_pickt rfl g45 rfl (by decide) ?_
            refine o_need rfl rfl (by decide) (fun hn42 => ?_) (fun hn42 => ?_)
            rotate_left
            ·
              exact after_one EntC.out (by simp) (perm_mid (p := [(m, .obj (.map kindsEs (0 + 1 + 1 + 1 + 1)))]) (u := [(x4, .box 39 [I 0]), (x3, .box 29 [I 0, I 0, V [] true, V [] true, V [] true])]) (v := [(x2, .box 36 [I e.kind, I e.t, I e.a, I e.b, I e.c, I e.f, I e.to, I e.m]), (x1, .box 29 (cellsW w f1 f2 f3))])) (step1_pan _ _ _ _ _ _ _ _) (fun h1' e' => by subst e'; exact ⟨_, [], .cons (resC 1 rfl rfl rfl) (.cons (resC 0 rfl rfl rfl) .nil), List.nil_sublist _, rfl, .inr ⟨stepW_bad (by simp only [okE]; simp_all), rfl⟩⟩)
            refine o_nil ?_
            refine h_seq ?_
            refine h_region ?_
            refine o_load 4 rfl rfl rfl rfl (by decide) ?_
            have hok : okE w e = true := by simp only [okE]; simp_all
            have hca : carOk e.a = true := by simp_all
            have hcb : carOk e.b = true := by simp_all
            have hcc : carOk e.c = true := by simp_all
            refine o_callN rfl rfl EntC.out (by decide) (copied_spec w f1 f2 f3 hbl hv.lb hv.ll (by intro h0; have := hv.lb; simp [h0] at this) (by intro h0; have := hv.ll; simp [h0] at this)) fun v h' hr => ?_
            obtain ⟨f, b1, b2, c1, c2, hc1, hc2, rfl, rfl⟩ := hr
            refine o_build rfl rfl (by decide) ?_
            refine o_box rfl rfl (by decide) fun x47 => ?_
            refine o_assign rfl (by decide) ?_
            refine o_nil ?_
            refine h_seq ?_
            refine h_region ?_
            refine o_move rfl (by decide) ?_
            refine o_move rfl (by decide) ?_
            refine o_load 6 rfl rfl rfl rfl (by decide) ?_
            refine o_callFE (h2 := [(m, .obj (.map kindsEs (0 + 1 + 1 + 1 + 1))), (x4, .box 39 [I 0]), (x3, .box 29 [I 0, I 0, V [] true, V [] true, V [] true]), (x2, .box 36 [I e.kind, I e.t, I e.a, I e.b, I e.c, I e.f, I e.to, I e.m]), (x1, .box 29 (cellsW w f1 f2 f3))]) rfl rfl rfl EntC.out (by decide) (upgrade_do w f x47 b1 b2 c1 c2 e hv (carR hca).1 (carR hca).2) (fun v h' hr => ?_) (fun c h' hr => ?_)
            rotate_left
            ·
              obtain ⟨_, _, _, h2, _⟩ | ⟨hd, h2⟩ := hr
              · cases h2
              cases h2
              rw [← doW4 hk] at hd
              rw [show h' ++ [(m, .obj (.map kindsEs (0 + 1 + 1 + 1 + 1))), (x4, .box 39 [I 0]), (x3, .box 29 [I 0, I 0, V [] true, V [] true, V [] true]), (x2, .box 36 [I e.kind, I e.t, I e.a, I e.b, I e.c, I e.f, I e.to, I e.m]), (x1, .box 29 (cellsW w f1 f2 f3))] = (h' ++ [(m, .obj (.map kindsEs (0 + 1 + 1 + 1 + 1)))]) ++ [(x4, .box 39 [I 0]), (x3, .box 29 [I 0, I 0, V [] true, V [] true, V [] true]), (x2, .box 36 [I e.kind, I e.t, I e.a, I e.b, I e.c, I e.f, I e.to, I e.m]), (x1, .box 29 (cellsW w f1 f2 f3))] from by simp]
              exact after_one EntC.out (by simp) (perm_mid (p := h' ++ [(m, .obj (.map kindsEs (0 + 1 + 1 + 1 + 1)))]) (u := [(x4, .box 39 [I 0]), (x3, .box 29 [I 0, I 0, V [] true, V [] true, V [] true])]) (v := [(x2, .box 36 [I e.kind, I e.t, I e.a, I e.b, I e.c, I e.f, I e.to, I e.m]), (x1, .box 29 (cellsW w f1 f2 f3))])) (step1_pan _ _ _ _ _ _ _ _) (fun h1' e' => by subst e'; exact ⟨_, [], .cons (resC 1 rfl rfl rfl) (.cons (resC 0 rfl rfl rfl) .nil), List.nil_sublist _, rfl, .inr ⟨stepW_no hok hd, rfl⟩⟩)
            obtain ⟨w', f', hd, h2, rfl⟩ | ⟨_, h2⟩ := hr
            rotate_left
            · cases h2
            cases h2
            rw [← doW4 hk] at hd
            have hlen := doW_len hv hd
            refine o_nil ?_
            refine h_frzW w' f' x47 b1 b2 c1 c2 hlen.1 hlen.2 hc1 hc2 ?_
            refine h_seq ?_
            refine h_region ?_
            refine o_move rfl (by decide) ?_
            refine o_nilp rfl (by decide) ?_
            refine o_faddr rfl rfl (by decide) (by decide) ?_
            refine o_load 0 rfl rfl rfl rfl (by decide) ?_
            refine o_call1 rfl rfl EntC.out (by decide) (mvalid_spec w' f' false false) ?_
            refine o_need rfl rfl (by decide) (fun hn56 => ?_) (fun hn56 => ?_)
            rotate_left
            ·
              exact after_one EntC.out (by simp) (perm_mid (p := [(x47, .box 106 (cellsW w' f' false false)), (m, .obj (.map kindsEs (0 + 1 + 1 + 1 + 1)))]) (u := [(x4, .box 39 [I 0]), (x3, .box 29 [I 0, I 0, V [] true, V [] true, V [] true])]) (v := [(x2, .box 36 [I e.kind, I e.t, I e.a, I e.b, I e.c, I e.f, I e.to, I e.m]), (x1, .box 29 (cellsW w f1 f2 f3))])) (step1_pan _ _ _ _ _ _ _ _) (fun h1' e' => by subst e'; exact ⟨_, [], .cons (resC 1 rfl rfl rfl) (.cons (resC 0 rfl rfl rfl) .nil), List.nil_sublist _, rfl, .inr ⟨stepW_inv hok hd hn56, rfl⟩⟩)
            refine o_nil ?_
            refine h_seq ?_
            refine h_region ?_
            refine o_move rfl (by decide) ?_
            refine o_nilp rfl (by decide) ?_
            refine o_faddr rfl rfl (by decide) (by decide) ?_
            refine o_load 0 rfl rfl rfl rfl (by decide) ?_
            refine o_store 3 rfl rfl rfl rfl rfl rfl ?_
            refine o_store 2 rfl rfl rfl rfl rfl rfl ?_
            refine o_nil ?_
            refine h_ret ?_
            exact after_one EntC.out (by simp) (perm_mid (p := [(x47, .box 106 (cellsW w' f' false false)), (m, .obj (.map kindsEs (0 + 1 + 1 + 1 + 1)))]) (u := [(x4, .box 39 [I 0]), (x3, .box 29 (cellsW w' f' false false))]) (v := [(x2, .box 36 [I e.kind, I e.t, I e.a, I e.b, I e.c, I e.f, I e.to, I e.m]), (x1, .box 29 (cellsW w f1 f2 f3))])) (step1_ret _ _ _ _ _ _ _ _) (fun h1' e' => by subst e'; exact ⟨_, [], .cons (resC 1 rfl rfl rfl) (.cons (resC 0 rfl rfl rfl) .nil), List.nil_sublist _, rfl, .inl ⟨w', f', stepW_ok hok hd hn56, rfl⟩⟩)
          ·
            have g45 : _ = false := g45
            refine o_guardn rfl rfl g45 (by decide) ?_
            refine o_guardn rfl rfl g45 (by decide) ?_
            refine o_guardn rfl rfl g45 (by decide) ?_
            refine o_guardn rfl rfl g45 (by decide) ?_
            refine o_pickf rfl g45 rfl (by decide) ?_
            refine o_need rfl rfl (by decide) (fun hn42 => absurd hn42 (by simp_all)) (fun hn42 => ?_)
            exact after_one EntC.out (by simp) (perm_mid (p := [(m, .obj (.map kindsEs (0 + 1 + 1 + 1 + 1)))]) (u := [(x4, .box 39 [I 0]), (x3, .box 29 [I 0, I 0, V [] true, V [] true, V [] true])]) (v := [(x2, .box 36 [I e.kind, I e.t, I e.a, I e.b, I e.c, I e.f, I e.to, I e.m]), (x1, .box 29 (cellsW w f1 f2 f3))])) (step1_pan _ _ _ _ _ _ _ _) (fun h1' e' => by subst e'; exact ⟨_, [], .cons (resC 1 rfl rfl rfl) (.cons (resC 0 rfl rfl rfl) .nil), List.nil_sublist _, rfl, .inr ⟨stepW_bad (by simp only [okE]; simp_all), rfl⟩⟩)
        ·
          have g43 : _ = false := g43
          refine o_guardn rfl rfl g43 (by decide) ?_
          refine o_guardn rfl rfl g43 (by decide) ?_
          refine o_pickf rfl g43 rfl (by decide) ?_
          refine o_move rfl (by decide) ?_
          refine o_guardn rfl rfl rfl (by decide) ?_
          refine o_guardn rfl rfl rfl (by decide) ?_
          refine o_guardn rfl rfl rfl (by decide) ?_
          refine o_guardn rfl rfl rfl (by decide) ?_
          refine o_guardn rfl rfl rfl (by decide) ?_
          refine o_pickf rfl rfl rfl (by decide) ?_
          refine o_need rfl rfl (by decide) (fun hn42 => absurd hn42 (by simp_all)) (fun hn42 => ?_)
          exact after_one EntC.out (by simp) (perm_mid (p := [(m, .obj (.map kindsEs (0 + 1 + 1 + 1 + 1)))]) (u := [(x4, .box 39 [I 0]), (x3, .box 29 [I 0, I 0, V [] true, V [] true, V [] true])]) (v := [(x2, .box 36 [I e.kind, I e.t, I e.a, I e.b, I e.c, I e.f, I e.to, I e.m]), (x1, .box 29 (cellsW w f1 f2 f3))])) (step1_pan _ _ _ _ _ _ _ _) (fun h1' e' => by subst e'; exact ⟨_, [], .cons (resC 1 rfl rfl rfl) (.cons (resC 0 rfl rfl rfl) .nil), List.nil_sublist _, rfl, .inr ⟨stepW_bad (by simp only [okE]; simp_all), rfl⟩⟩)
      ·
        have g41 : _ = false := g41
        refine o_guardn rfl rfl g41 (by decide) ?_
        refine o_guardn rfl rfl g41 (by decide) ?_
        refine o_pickf rfl g41 rfl (by decide) ?_
        refine o_move rfl (by decide) ?_
        refine o_guardn rfl rfl rfl (by decide) ?_
        refine o_guardn rfl rfl rfl (by decide) ?_
        refine o_guardn rfl rfl rfl (by decide) ?_
        refine o_pickf rfl rfl rfl (by decide) ?_
        refine o_move rfl (by decide) ?_
        refine o_guardn rfl rfl rfl (by decide) ?_
        refine o_guardn rfl rfl rfl (by decide) ?_
        refine o_guardn rfl rfl rfl (by decide) ?_
        refine o_guardn rfl rfl rfl (by decide) ?_
        refine o_guardn rfl rfl rfl (by decide) ?_
        refine o_pickf rfl rfl rfl (by decide) ?_
        refine o_need rfl rfl (by decide) (fun hn42 => absurd hn42 (by simp_all)) (fun hn42 => ?_)
        exact after_one EntC.out (by simp) (perm_mid (p := [(m, .obj (.map kindsEs (0 + 1 + 1 + 1 + 1)))]) (u := [(x4, .box 39 [I 0]), (x3, .box 29 [I 0, I 0, V [] true, V [] true, V [] true])]) (v := [(x2, .box 36 [I e.kind, I e.t, I e.a, I e.b, I e.c, I e.f, I e.to, I e.m]), (x1, .box 29 (cellsW w f1 f2 f3))])) (step1_pan _ _ _ _ _ _ _ _) (fun h1' e' => by subst e'; exact ⟨_, [], .cons (resC 1 rfl rfl rfl) (.cons (resC 0 rfl rfl rfl) .nil), List.nil_sublist _, rfl, .inr ⟨stepW_bad (by simp only [okE]; simp_all), rfl⟩⟩)
    ·
      have g39 : _ = false := g39
      refine o_guardn rfl rfl g39 (by decide) ?_
      refine o_guardn rfl rfl g39 (by decide) ?_
      refine o_pickf rfl g39 rfl (by decide) ?_
      refine o_move rfl (by decide) ?_
      refine o_guardn rfl rfl rfl (by decide) ?_
      refine o_guardn rfl rfl rfl (by decide) ?_
      refine o_guardn rfl rfl rfl (by decide) ?_
      refine o_pickf rfl rfl rfl (by decide) ?_
      refine o_move rfl (by decide) ?_
      refine o_guardn rfl rfl rfl (by decide) ?_
      refine o_guardn rfl rfl rfl (by decide) ?_
      refine o_guardn rfl rfl rfl (by decide) ?_
      refine o_pickf rfl rfl rfl (by decide) ?_
      refine o_move rfl (by decide) ?_
      refine o_guardn rfl rfl rfl (by decide) ?_
      refine o_guardn rfl rfl rfl (by decide) ?_
      refine o_guardn rfl rfl rfl (by decide) ?_
      refine o_guardn rfl rfl rfl (by decide) ?_
      refine o_guardn rfl rfl rfl (by decide) ?_
      refine o_pickf rfl rfl rfl (by decide) ?_
      refine o_need rfl rfl (by decide) (fun hn42 => absurd hn42 (by simp_all)) (fun hn42 => ?_)
      exact after_one EntC.out (by simp) (perm_mid (p := [(m, .obj (.map kindsEs (0 + 1 + 1 + 1 + 1)))]) (u := [(x4, .box 39 [I 0]), (x3, .box 29 [I 0, I 0, V [] true, V [] true, V [] true])]) (v := [(x2, .box 36 [I e.kind, I e.t, I e.a, I e.b, I e.c, I e.f, I e.to, I e.m]), (x1, .box 29 (cellsW w f1 f2 f3))])) (step1_pan _ _ _ _ _ _ _ _) (fun h1' e' => by subst e'; exact ⟨_, [], .cons (resC 1 rfl rfl rfl) (.cons (resC 0 rfl rfl rfl) .nil), List.nil_sublist _, rfl, .inr ⟨stepW_bad (by simp only [okE]; simp_all), rfl⟩⟩)
  ·
    refine h_seq ?_
    refine h_draw _ (List.nil_sublist _) [(1, .flo), (2, .val), (0, .new), (3, .sto), (4, .flo)] mixed (by kernel_rfl) ?_
    refine c_flo rfl rfl (fun Xq rq Qq dq kq => o_faddr rfl rfl (by decide) (by decide) kq) ?_
    refine c_val rfl rfl (fun Xq rq Qq dq kq => o_load 2 rfl rfl rfl rfl (by decide) kq) ?_
    refine c_newG (ι := Nat) (fun m => M m) (fun m => [(m, .obj (.map kindsEs (0 + 1 + 1 + 1 + 1)))]) rfl rfl (fun X r Q ds k => o_callA rfl rfl EntC.out (by decide) kinds_spec fun v h' hr => by obtain ⟨m, rfl, rfl⟩ := hr; exact k m) fun m => ?_
    refine c_stov (List.nil_sublist _) rfl rfl (fun Xq rq Qq dq kq => o_lookup0 0 rfl rfl rfl (find0 hk1 hk2 hk3 hk4) (fun w => ZeroV.run inferInstance w) (by decide) kq) ?_
    refine c_flo rfl rfl (fun Xq rq Qq dq kq => o_assign rfl (by decide) kq) ?_
    refine c_nil ?_
    refine h_seq ?_
    refine h_region ?_
    refine o_move rfl (by decide) ?_
    refine o_neqf0 rfl (by decide) ?_
    refine o_move rfl (by decide) ?_
    refine o_guardn rfl rfl rfl (by decide) ?_
    refine o_guardn rfl rfl rfl (by decide) ?_
    refine o_guardn rfl rfl rfl (by decide) ?_
    refine o_pickf rfl rfl rfl (by decide) ?_
    refine o_move rfl (by decide) ?_
    refine o_guardn rfl rfl rfl (by decide) ?_
    refine o_guardn rfl rfl rfl (by decide) ?_
    refine o_guardn rfl rfl rfl (by decide) ?_
    refine o_pickf rfl rfl rfl (by decide) ?_
    refine o_move rfl (by decide) ?_
    refine o_guardn rfl rfl rfl (by decide) ?_
    refine o_guardn rfl rfl rfl (by decide) ?_
    refine o_guardn rfl rfl rfl (by decide) ?_
    refine o_pickf rfl rfl rfl (by decide) ?_
    refine o_move rfl (by decide) ?_
    refine o_guardn rfl rfl rfl (by decide) ?_
    refine o_guardn rfl rfl rfl (by decide) ?_
    refine o_guardn rfl rfl rfl (by decide) ?_
    refine o_pickf rfl rfl rfl (by decide) ?_
    refine o_move rfl (by decide) ?_
    refine o_guardn rfl rfl rfl (by decide) ?_
    refine o_guardn rfl rfl rfl (by decide) ?_
    refine o_guardn rfl rfl rfl (by decide) ?_
    refine o_guardn rfl rfl rfl (by decide) ?_
    refine o_guardn rfl rfl rfl (by decide) ?_
    refine o_pickf rfl rfl rfl (by decide) ?_
    refine o_need rfl rfl (by decide) (fun hn42 => absurd hn42 (by simp_all)) (fun hn42 => ?_)
    exact after_one EntC.out (by simp) (perm_mid (p := [(m, .obj (.map kindsEs (0 + 1 + 1 + 1 + 1)))]) (u := [(x4, .box 39 [I 0]), (x3, .box 29 [I 0, I 0, V [] true, V [] true, V [] true])]) (v := [(x2, .box 36 [I e.kind, I e.t, I e.a, I e.b, I e.c, I e.f, I e.to, I e.m]), (x1, .box 29 (cellsW w f1 f2 f3))])) (step1_pan _ _ _ _ _ _ _ _) (fun h1' e' => by subst e'; exact ⟨_, [], .cons (resC 1 rfl rfl rfl) (.cons (resC 0 rfl rfl rfl) .nil), List.nil_sublist _, rfl, .inr ⟨stepW_bad (by have : ¬ (1 ≤ e.kind ∧ e.kind ≤ 4) := (by omega); simp [okE, this]), rfl⟩⟩)

end Go.Proofs.Ytbnonekkjjcdgaa
/- The walks of merge.Step, Run, isPossible. -/
namespace Go.Proofs.Ytbnonekkjjcdgaa
open Go Go.RowKit Go.Shelf Hp
set_option maxRecDepth 10000
set_option maxHeartbeats 1000000
set_option linter.unusedVariables false
set_option linter.unusedSimpArgs false
attribute [local irreducible] WP WPs FnX IterX YdX RetP PanP Ch Back Join
def wd0 : Wd := ⟨0, 0, [], [], []⟩
/-- What Step returns. -/
def stepM (w : Wd) (e : Ev) : Wd × Int := if validW w then match stepW w e with
  | some w' => (w', 0)
  | none => (wd0, 420)
  else (wd0, 420)
abbrev RW (p : Wd × Int) : AV → AHeap → Prop := fun r h' => h' = [] ∧ ∃ f1 f2 f3, r = .tup [encW p.1 f1 f2 f3, I p.2]

theorem mStep_spec (w : Wd) (e : Ev) (f1 f2 f3 : Bool) : Fc Try.prog 9 [encW w f1 f2 f3, encE e] [] (RW (stepM w e)) := by
  refine fnE_intro (N := 15) Try.func9 rfl rfl rfl ?_
  intro X
  refine h_seq ?_
  refine h_region ?_
  refine o_box rfl rfl (by decide) fun x1 => ?_
  refine o_box rfl rfl (by decide) fun x2 => ?_
  refine o_alloc (by decide) fun x3 => ?_
  refine o_assign rfl (by decide) ?_
  refine o_nil ?_
  refine h_seq ?_
  refine h_seq ?_
  refine h_region ?_
  refine o_load 2 rfl rfl rfl rfl (by decide) ?_
  refine o_call1 rfl rfl EntC.out (by decide) (mvalid_spec w f1 f2 f3) ?_
  refine o_not rfl (by decide) ?_
  refine o_nil ?_
  refine h_cond rfl (fun c5 => ?_) (fun c5 => ?_)
  ·
    refine h_seq ?_
    refine h_region ?_
    refine o_build rfl rfl (by decide) ?_
    refine o_store 0 rfl rfl rfl rfl rfl rfl ?_
    refine o_assign rfl (by decide) ?_
    refine o_nil ?_
    refine h_ret ?_
    have hq : stepM w e = (wd0, 420) := (by have : validW w = false := (by simp_all); simp only [stepM, this]; rfl)
    exact retG [] (.cons (resC 0 rfl rfl rfl) (.cons (resT rfl) .nil)) (List.nil_sublist _) ⟨_, rfl, rfl, true, true, true, by rw [hq]; rfl⟩
  ·
    refine h_skip ?_
    refine h_seq ?_
    refine h_region ?_
    refine o_load 2 rfl rfl rfl rfl (by decide) ?_
    refine o_load 1 rfl rfl rfl rfl (by decide) ?_
    have hvv : validW w = true := by simp_all
    have hvp := (valid_iff w).1 hvv
    refine o_callNE rfl rfl EntC.out (by decide) (step_spec w e f1 f2 f3 hvp (by have := valid_len hvp.blk; omega)) (fun v h' hr => ?_) (fun c h' hr => by obtain ⟨_, ⟨_, _, _, h2⟩ | ⟨_, h2⟩⟩ := hr <;> cases h2)
    obtain ⟨rfl, ⟨w', f, hs, h2⟩ | ⟨hs, h2⟩⟩ := hr
    ·
      cases h2
      refine o_extract rfl rfl (by decide) ?_
      refine o_extract rfl rfl (by decide) ?_
      refine o_store 0 rfl rfl rfl rfl rfl rfl ?_
      refine o_assign rfl (by decide) ?_
      refine o_nil ?_
      refine h_ret ?_
      have hq : stepM w e = (w', 0) := (by simp only [stepM, hvv, if_true, hs])
      exact retG [] (.cons (resC 0 rfl rfl rfl) (.cons (resT rfl) .nil)) (List.nil_sublist _) ⟨_, rfl, rfl, f, false, false, by rw [hq]; rfl⟩
    ·
      cases h2
      refine o_extract rfl rfl (by decide) ?_
      refine o_extract rfl rfl (by decide) ?_
      refine o_store 0 rfl rfl rfl rfl rfl rfl ?_
      refine o_assign rfl (by decide) ?_
      refine o_nil ?_
      refine h_ret ?_
      have hq : stepM w e = (wd0, 420) := (by simp only [stepM, hvv, if_true, hs])
      exact retG [] (.cons (resC 0 rfl rfl rfl) (.cons (resT rfl) .nil)) (List.nil_sublist _) ⟨_, rfl, rfl, true, true, true, by rw [hq]; rfl⟩

def cmpM (a b : Ev) : Int := if a.t < b.t then -1 else if b.t < a.t then 1 else 0
def dE : Ev := ⟨0, 0, 0, 0, 0, 0, 0, 0⟩
def encV (e : Ev) : List PV := [pI e.kind, pI e.t, pI e.a, pI e.b, pI e.c, pI e.f, pI e.to, pI e.m]
def badS (l : List Ev) (j : Nat) : Bool := decide ((l.getD (j + 1) dE).t < (l.getD j dE).t)
def sortedM (l : List Ev) : Bool := !(List.range (l.length - 1)).any (badS l)

theorem byTime_spec (a b : Ev) : Fn1 Try.prog 39 [encE a, encE b] (I (cmpM a b)) := by
  refine fnE_intro (N := 17) Try.func39 rfl rfl rfl ?_
  intro X
  refine h_seq ?_
  refine h_region ?_
  refine o_box rfl rfl (by decide) fun x6 => ?_
  refine o_box rfl rfl (by decide) fun x7 => ?_
  refine o_assign rfl (by decide) ?_
  refine o_nil ?_
  refine h_seq ?_
  refine h_block ?_
  refine h_seq ?_
  refine h_region ?_
  refine o_faddr rfl rfl (by decide) (by decide) ?_
  refine o_load 1 rfl rfl rfl rfl (by decide) ?_
  refine o_faddr rfl rfl (by decide) (by decide) ?_
  refine o_load 0 rfl rfl rfl rfl (by decide) ?_
  refine o_cmp rfl rfl rfl (by decide) ?_
  refine o_assign rfl (by decide) ?_
  refine o_nil ?_
  refine h_cond rfl (fun c9 => ?_) (fun c9 => ?_)
  ·
    refine h_seq ?_
    refine h_region ?_
    refine o_assign rfl (by decide) ?_
    refine o_nil ?_
    refine h_ret ?_
    exact ret1' rfl (I_eq (by unfold cmpM; simp_all <;> (try omega)))
  ·
    refine h_seq ?_
    refine h_region ?_
    refine o_faddr rfl rfl (by decide) (by decide) ?_
    refine o_load 1 rfl rfl rfl rfl (by decide) ?_
    refine o_faddr rfl rfl (by decide) (by decide) ?_
    refine o_load 0 rfl rfl rfl rfl (by decide) ?_
    refine o_cmp rfl rfl rfl (by decide) ?_
    refine o_assign rfl (by decide) ?_
    refine o_nil ?_
    refine h_cond rfl (fun c11 => ?_) (fun c11 => ?_)
    ·
      refine h_seq ?_
      refine h_region ?_
      refine o_assign rfl (by decide) ?_
      refine o_nil ?_
      refine h_ret ?_
      exact ret1' rfl (I_eq (by unfold cmpM; simp_all <;> (try omega)))
    ·
      refine h_skip ?_
      refine h_seq ?_
      refine h_region ?_
      refine o_assign rfl (by decide) ?_
      refine o_nil ?_
      refine h_ret ?_
      exact ret1' rfl (I_eq (by unfold cmpM; simp_all <;> (try omega)))

structure SoI (l : List Ev) where
  m : Nat
  hm : m ≤ l.length
  hok : ∀ j, m ≤ j + 1 → j + 1 < l.length → badS l j = false
theorem eltV {l : List Ev} {n : Int} (h : n.toNat < l.length) : (l.map encV)[n.toNat]? = some (encV (l.getD n.toNat dE)) := by simp [h]

theorem isSorted_spec (l : List Ev) (hlen : l.length ≤ 1000000000) (f : Bool) : Fn1 Try.prog 38 [V (l.map encV) f, .fn 39 []] (B (sortedM l)) := by
  refine fnE_intro (N := 25) Try.func38 rfl rfl rfl ?_
  intro X
  refine h_seq ?_
  refine h_region ?_
  refine o_assign rfl (by decide) ?_
  refine o_nil ?_
  refine h_seq ?_
  refine h_seq ?_
  refine h_region ?_
  refine o_move rfl (by decide) ?_
  refine o_len rfl (by decide) ?_
  refine o_sub rfl rfl (by unfold in64; simp; omega) (by decide) ?_
  refine o_assign rfl (by decide) ?_
  refine o_nil ?_
  refine h_block ?_
  refine h_famS (ι := SoI l) (fun i => [(0, V (l.map encV) f), (1, .fn 39 []), (5, I ((i.m : Nat) - 1 : Int))]) (fun i => []) (fun i => i.m) ⟨(l.map encV).length, by simp, fun j h1 h2 => by simp at h1; omega⟩ (.refl _) (subT.cons rfl (subT.cons rfl (subT.cons rfl subT.nil))) ?_
  rintro ⟨m, hm, hok⟩
  dsimp only
  by_cases hlt : 2 ≤ m
  ·
    refine h_seq ?_
    refine h_seq ?_
    refine h_region ?_
    refine o_move rfl (by decide) ?_
    refine o_cmp rfl rfl rfl (by decide) ?_
    refine o_nil ?_
    refine h_condt rfl (by simp; omega) ?_
    refine h_skip ?_
    refine h_seq ?_
    refine h_block ?_
    refine h_seq ?_
    refine h_draw _ (List.nil_sublist _) [(0, .flo), (1, .flo), (2, .flo), (3, .flo), (4, .val), (5, .flo), (6, .flo), (7, .flo), (8, .flo), (9, .val), (10, .bar), (11, .bar)] mixed (by kernel_rfl) ?_
    refine c_flo rfl rfl (fun Xq rq Qq dq kq => o_move rfl (by decide) kq) ?_
    refine c_flo rfl rfl (fun Xq rq Qq dq kq => o_move rfl (by decide) kq) ?_
    refine c_flo rfl rfl (fun Xq rq Qq dq kq => o_move rfl (by decide) kq) ?_
    refine c_flo rfl rfl (fun Xq rq Qq dq kq => o_idxv rfl rfl (by omega) (eltV (by omega)) rfl (by decide) kq) ?_
    refine c_val rfl rfl (fun Xq rq Qq dq kq => o_loadv rfl rfl (by decide) kq) ?_
    refine c_flo rfl rfl (fun Xq rq Qq dq kq => o_move rfl (by decide) kq) ?_
    refine c_flo rfl rfl (fun Xq rq Qq dq kq => o_move rfl (by decide) kq) ?_
    refine c_flo rfl rfl (fun Xq rq Qq dq kq => o_sub rfl rfl (by unfold in64; (try dsimp only); omega) (by decide) kq) ?_
    refine c_flo rfl rfl (fun Xq rq Qq dq kq => o_idxv rfl rfl (by omega) (eltV (by omega)) rfl (by decide) kq) ?_
    refine c_val rfl rfl (fun Xq rq Qq dq kq => o_loadv rfl rfl (by decide) kq) ?_
    refine c_bar ?_
    refine o_call1 rfl rfl EntC.out (by decide) (byTime_spec (l.getD (((m : Nat) : Int) - 1).toNat dE) (l.getD (((m : Nat) : Int) - 1 - 1).toNat dE)) ?_
    refine o_cmp rfl rfl rfl (by decide) ?_
    refine o_nil ?_
    refine h_cond rfl (fun c14 => ?_) (fun c14 => ?_)
    ·
      refine h_seq ?_
      refine h_region ?_
      refine o_assign rfl (by decide) ?_
      refine o_nil ?_
      refine h_ret ?_
      refine ret1' rfl (B_eq ?_)
      have hx := c14
      have e1 : ((m : Nat) : Int) - 1 = ((m - 2 + 1 : Nat) : Int) := by omega
      have e2 : ((m : Nat) : Int) - 1 - 1 = ((m - 2 : Nat) : Int) := by omega
      rw [e2, e1] at hx
      simp only [Int.toNat_natCast, cmpM] at hx
      have hb : badS l (m - 2) = true := by simp only [badS, decide_eq_true_eq]; by_cases hc : (l.getD (m - 2 + 1) dE).t < (l.getD (m - 2) dE).t; exact hc; rw [if_neg hc] at hx; split at hx <;> simp at hx
      symm; simp only [sortedM, Bool.not_eq_false']; exact List.any_eq_true.2 ⟨m - 2, List.mem_range.2 (by omega), hb⟩
    ·
      refine h_skip ?_
      refine h_region ?_
      refine o_move rfl (by decide) ?_
      refine o_sub rfl rfl (by unfold in64; (try dsimp only); omega) (by decide) ?_
      refine o_assign rfl (by decide) ?_
      refine o_nil ?_
      have hj : badS l (m - 2) = false := by
        have hx := c14
        have e1 : ((m : Nat) : Int) - 1 = ((m - 2 + 1 : Nat) : Int) := by omega
        have e2 : ((m : Nat) : Int) - 1 - 1 = ((m - 2 : Nat) : Int) := by omega
        rw [e2, e1] at hx
        simp only [Int.toNat_natCast, cmpM] at hx
        simp only [badS, decide_eq_false_iff_not]
        intro hc; rw [if_pos hc] at hx; simp at hx
      refine back rfl ⟨m - 1, by omega, fun j h1 h2 => by rcases Nat.lt_or_ge (j + 1) m with h3 | h3; obtain rfl : j = m - 2 := (by omega); exact hj; exact hok j h3 h2⟩ (by dsimp only; omega) (.refl _) (subT.cons rfl (subT.cons rfl (subT.cons (by dsimp only; rw [show (((m : Nat) : Int) - 1 - 1) = (((m - 1 : Nat)) : Int) - 1 from by omega]; rfl) subT.nil)))
  ·
    refine h_seq ?_
    refine h_seq ?_
    refine h_region ?_
    refine o_move rfl (by decide) ?_
    refine o_cmp rfl rfl rfl (by decide) ?_
    refine o_nil ?_
    refine h_condf rfl (by simp; omega) ?_
    refine h_exit ?_
    refine h_seq ?_
    refine h_region ?_
    refine o_assign rfl (by decide) ?_
    refine o_nil ?_
    refine h_ret ?_
    refine ret1' rfl (B_eq ?_)
    symm; simp only [sortedM, Bool.not_eq_true']; rw [List.any_eq_false]; intro j hj; have := List.mem_range.1 hj; rw [hok j (by omega) (by omega)]; simp

theorem frz5 {h h' : AHeap} {a0 a1 a2 a3 a4 d0 d1 d2 d3 d4 : AV} (h0 : FrzA h h' a0 d0) (h1 : FrzA h h' a1 d1) (h2 : FrzA h h' a2 d2) (h3 : FrzA h h' a3 d3) (h4 : FrzA h h' a4 d4) : FrzA h h' (.agg [a0, a1, a2, a3, a4]) (.agg [d0, d1, d2, d3, d4]) :=
  .agg _ _ rfl fun i c d hc hd => by
    match i with
    | 0 => cases hc; cases hd; exact h0
    | 1 => cases hc; cases hd; exact h1
    | 2 => cases hc; cases hd; exact h2
    | 3 => cases hc; cases hd; exact h3
    | 4 => cases hc; cases hd; exact h4
    | i + 5 => cases hc
def runL (w : Wd) : List Ev → Int → Wd × Int × Int
  | [], i => (w, i, 0)
  | e :: l, i => match stepW w e with
    | some w' => runL w' l (i + 1)
    | none => (wd0, i, 420)
def runM (w : Wd) (l : List Ev) : Wd × Int × Int := if !validW w || decide (20 < (l.length : Int)) || !sortedM l then (wd0, 0, 420) else runL w l 0
abbrev RunR (p : Wd × Int × Int) : AV → AHeap → Prop := fun r h' => h' = [] ∧ ∃ f1 f2 f3, r = .tup [encW p.1 f1 f2 f3, I p.2.1, I p.2.2]
structure RunI (w : Wd) (l : List Ev) where
  k : Nat
  wk : Wd
  f1 : Bool
  f2 : Bool
  f3 : Bool
  hk : k ≤ l.length
  hr : runL w l 0 = runL wk (l.drop k) k
  hv : VParts wk
theorem stepW_valid {w w' : Wd} {e : Ev} (h : stepW w e = some w') : validW w' = true := by
  unfold stepW at h
  split at h
  · cases h
  · split at h
    · cases h
    · split at h
      · cases h; assumption
      · cases h
theorem drop_k {l : List Ev} {k : Nat} (h : k < l.length) : l.drop k = l.getD k dE :: l.drop (k + 1) := by
  rw [List.drop_eq_getElem_cons h]; simp [h]

theorem copiedP_spec (w : Wd) (f1 f2 f3 : Bool) (hv : VParts w) : Fc Try.prog 40 [encW w f1 f2 f3] [] (fun r h' => ∃ f, r = encW w f false false ∧ h' = []) := by
  have hbl : w.blocks.length ≤ 1000000000 := (by have := valid_len hv.blk; omega); have hb := hv.lb; have hl := hv.ll; have hnb : w.bal ≠ [] := (by intro h0; simp [h0] at hb); have hnl : w.lev ≠ [] := (by intro h0; simp [h0] at hl); refine fnE_intro (N := 16) Try.func40 rfl rfl rfl ?_
  intro X
  refine h_seq ?_
  refine h_region ?_
  refine o_box rfl rfl (by decide) fun x16 => ?_
  refine o_alloc (by decide) fun x17 => ?_
  refine o_nil ?_
  refine h_seq ?_
  refine h_draw _ (.cons_cons _ (.cons _ (List.nil_sublist _))) [(0, .flo), (1, .val), (3, .flo), (4, .val), (6, .flo), (7, .val), (2, .new), (9, .flo), (5, .new), (8, .new), (10, .sto), (11, .flo), (12, .sto), (13, .flo), (14, .sto)] mixed (by kernel_rfl) ?_
  refine c_flo rfl rfl (fun Xq rq Qq dq kq => o_faddr rfl rfl (by decide) (by decide) kq) ?_
  refine c_val rfl rfl (fun Xq rq Qq dq kq => o_load 1 rfl rfl rfl rfl (by decide) kq) ?_
  refine c_flo rfl rfl (fun Xq rq Qq dq kq => o_faddr rfl rfl (by decide) (by decide) kq) ?_
  refine c_val rfl rfl (fun Xq rq Qq dq kq => o_load 1 rfl rfl rfl rfl (by decide) kq) ?_
  refine c_flo rfl rfl (fun Xq rq Qq dq kq => o_faddr rfl rfl (by decide) (by decide) kq) ?_
  refine c_val rfl rfl (fun Xq rq Qq dq kq => o_load 1 rfl rfl rfl rfl (by decide) kq) ?_
  refine c_newG (ι := Bool) (fun f => V (w.blocks.map encB) f) (fun _ => []) rfl rfl (fun X r Q ds k => o_callA rfl rfl EntC.out (by decide) (cloneB_spec w.blocks hbl f1) fun v h' hr => by obtain ⟨⟨f', rfl⟩, rfl⟩ := hr; exact k f') fun fb => ?_
  refine c_flo rfl rfl (fun Xq rq Qq dq kq => o_faddr rfl rfl (by decide) (by decide) kq) ?_
  refine c_newG (ι := {p : Nat × Nat // 8 ≤ p.2}) (fun p => .os p.1.1 1 0 8 p.1.2) (fun p => [(p.1.1, .arr 3 1 (w.bal.map encI) p.1.2)]) rfl rfl (fun X r Q ds k => o_callA rfl rfl EntC.out (by decide) (cloneI_spec w.bal hnb (by omega) f2) fun v h' hr => by obtain ⟨b, c', hc, rfl, rfl⟩ := hr; rw [hb] at hc ⊢; exact k ⟨(b, c'), hc⟩) fun pb => ?_
  refine c_newG (ι := {p : Nat × Nat // 8 ≤ p.2}) (fun p => .os p.1.1 1 0 8 p.1.2) (fun p => [(p.1.1, .arr 3 1 (w.lev.map encI) p.1.2)]) rfl rfl (fun X r Q ds k => o_callA rfl rfl EntC.out (by decide) (cloneI_spec w.lev hnl (by omega) f3) fun v h' hr => by obtain ⟨b, c', hc, rfl, rfl⟩ := hr; rw [hl] at hc ⊢; exact k ⟨(b, c'), hc⟩) fun pl => ?_
  refine c_sto (.cons _ (.cons _ (.cons_cons _ (.cons _ (List.nil_sublist _))))) rfl rfl (fun Xq rq Qq dq kq => o_store 3 rfl rfl rfl rfl rfl rfl kq) ?_
  refine c_flo rfl rfl (fun Xq rq Qq dq kq => o_faddr rfl rfl (by decide) (by decide) kq) ?_
  refine c_sto (.cons _ (.cons _ (.cons_cons _ (.cons _ (List.nil_sublist _))))) rfl rfl (fun Xq rq Qq dq kq => o_store 3 rfl rfl rfl rfl rfl rfl kq) ?_
  refine c_flo rfl rfl (fun Xq rq Qq dq kq => o_faddr rfl rfl (by decide) (by decide) kq) ?_
  refine c_sto (.cons _ (.cons _ (.cons_cons _ (.cons _ (List.nil_sublist _))))) rfl rfl (fun Xq rq Qq dq kq => o_store 3 rfl rfl rfl rfl rfl rfl kq) ?_
  refine c_nil ?_
  refine h_seq ?_
  refine h_region ?_
  refine o_load 3 rfl rfl rfl rfl (by decide) ?_
  refine o_store 2 rfl rfl rfl rfl rfl rfl ?_
  refine o_nil ?_
  refine h_ret ?_
  exact retF (.cons (resC 2 rfl rfl rfl) .nil) (frz5 (.refl _) (.refl _) (.refl _) (frz_os (List.mem_cons_of_mem _ List.mem_cons_self) (by simp [hb]) pb.2) (frz_os List.mem_cons_self (by simp [hl]) pl.2)) ⟨_, rfl, fb, rfl, rfl⟩

theorem run_spec (w : Wd) (l : List Ev) (hlen : l.length ≤ 1000000000) (f1 f2 f3 f : Bool) : Fc Try.prog 18 [encW w f1 f2 f3, V (l.map encV) f] [] (RunR (runM w l)) := by
  refine fnE_intro (N := 50) Try.func18 rfl rfl rfl ?_
  intro X
  refine h_seq ?_
  refine h_region ?_
  refine o_box rfl rfl (by decide) fun x18 => ?_
  refine o_alloc (by decide) fun x19 => ?_
  refine o_assign rfl (by decide) ?_
  refine o_assign rfl (by decide) ?_
  refine o_nil ?_
  refine h_seq ?_
  refine h_seq ?_
  refine h_region ?_
  refine o_load 1 rfl rfl rfl rfl (by decide) ?_
  refine o_call1 rfl rfl EntC.out (by decide) (mvalid_spec w f1 f2 f3) ?_
  refine o_not rfl (by decide) ?_
  refine o_move rfl (by decide) ?_
  refine o_guard rfl rfl (by decide) (fun g21 => ?_) (fun g21 => ?_)
  ·
    have g21 : _ = false := g21
    refine o_move rfl (by decide) ?_
    refine o_guardy rfl rfl (by rw [(not_of g21)]; rfl) (by decide) ?_
    refine o_len rfl (by decide) ?_
    refine o_guardy rfl rfl (by rw [(not_of g21)]; rfl) (by decide) ?_
    refine o_cmp rfl rfl rfl (by decide) ?_
    refine o_pickf rfl (by rw [(not_of g21)]; rfl) rfl (by decide) ?_
    refine o_move rfl (by decide) ?_
    refine o_guard rfl rfl (by decide) (fun g23 => ?_) (fun g23 => ?_)
    ·
      have g23 : _ = false := g23
      refine o_move rfl (by decide) ?_
      refine o_guardy rfl rfl g23 (by decide) ?_
      refine o_call1 rfl rfl EntC.out (by decide) (isSorted_spec l hlen f) ?_
      refine o_guardy rfl rfl g23 (by decide) ?_
      refine o_not rfl (by decide) ?_
      refine o_pickf rfl g23 rfl (by decide) ?_
      refine o_nil ?_
      refine h_cond rfl (fun c25 => ?_) (fun c25 => ?_)
      ·
        refine h_seq ?_
        refine h_region ?_
        refine o_build rfl rfl (by decide) ?_
        refine o_store 0 rfl rfl rfl rfl rfl rfl ?_
        refine o_assign rfl (by decide) ?_
        refine o_assign rfl (by decide) ?_
        refine o_nil ?_
        refine h_ret ?_
        have hq : runM w l = (wd0, 0, 420) := (by simp only [runM]; rw [if_pos (by simp_all)])
        exact retG [] (.cons (resC 0 rfl rfl rfl) (.cons (resT rfl) (.cons (resT rfl) .nil))) (List.nil_sublist _) ⟨_, rfl, rfl, true, true, true, by rw [hq]; rfl⟩
      ·
        refine h_skip ?_
        refine h_seq ?_
        refine h_region ?_
        refine o_load 1 rfl rfl rfl rfl (by decide) ?_
        have hvv : validW w = true := by simp_all
        have hvp := (valid_iff w).1 hvv
        refine o_callN rfl rfl EntC.out (by decide) (copiedP_spec w f1 f2 f3 hvp) fun v h' hr => ?_
        obtain ⟨fc, rfl, rfl⟩ := hr
        refine o_store 1 rfl rfl rfl rfl rfl rfl ?_
        refine o_nil ?_
        refine h_seq ?_
        refine h_seq ?_
        refine h_region ?_
        refine o_move rfl (by decide) ?_
        refine o_len rfl (by decide) ?_
        refine o_move rfl (by decide) ?_
        refine o_nil ?_
        refine h_block ?_
        refine h_famS (ι := RunI w l) (fun i => [(1, V (l.map encV) f), (2, .ptr x18 0), (4, .ptr x19 0), (27, V (l.map encV) f), (28, I (((l.map encV).length : Nat) : Int)), (29, I (i.k : Nat))]) (fun i => (x19, .box 29 [I 0, I 0, V [] true, V [] true, V [] true]) :: (x18, .box 29 (cellsW i.wk i.f1 i.f2 i.f3)) :: []) (fun i => l.length - i.k) ⟨0, w, fc, false, false, Nat.zero_le _, rfl, hvp⟩ (.cons_cons _ (.cons_cons _ (.refl _))) (subT.cons rfl (subT.cons rfl (subT.cons rfl (subT.cons rfl (subT.cons rfl (subT.cons rfl subT.nil)))))) ?_
        rintro ⟨k, wk, g1, g2, g3, hk, hr, hv⟩
        dsimp only
        by_cases hlt : k < l.length
        ·
          refine h_seq ?_
          refine h_region ?_
          refine o_cmp rfl rfl rfl (by decide) ?_
          refine o_nil ?_
          refine h_seq ?_
          refine h_condt rfl (by simp; omega) ?_
          refine h_skip ?_
          refine h_seq ?_
          refine h_block ?_
          refine h_seq ?_
          refine h_region ?_
          refine o_move rfl (by decide) ?_
          refine o_idxv rfl rfl (by omega) (eltV (by simpa using hlt)) rfl (by decide) ?_
          refine o_loadv rfl rfl (by decide) ?_
          refine o_alloc (by decide) fun x27 => ?_
          refine o_assign rfl (by decide) ?_
          refine o_store 0 rfl rfl rfl rfl rfl rfl ?_
          refine o_nil ?_
          refine h_seq ?_
          refine h_region ?_
          refine o_load 2 rfl rfl rfl rfl (by decide) ?_
          refine o_load 0 rfl rfl rfl rfl (by decide) ?_
          refine o_callNE rfl rfl EntC.out (by decide) (step_spec wk (l.getD k dE) g1 g2 g3 hv (by have := valid_len hv.blk; omega)) (fun v h' hr => ?_) (fun c h' hr => by obtain ⟨_, ⟨_, _, _, h2⟩ | ⟨_, h2⟩⟩ := hr <;> cases h2)
          obtain ⟨rfl, ⟨w', f', hs, h2⟩ | ⟨hs, h2⟩⟩ := hr
          ·
            cases h2
            refine o_move rfl (by decide) ?_
            refine o_extract rfl rfl (by decide) ?_
            refine o_extract rfl rfl (by decide) ?_
            refine o_alloc (by decide) fun x28 => ?_
            refine o_store 0 rfl rfl rfl rfl rfl rfl ?_
            refine o_assign rfl (by decide) ?_
            refine o_nil ?_
            refine h_seq ?_
            refine h_seq ?_
            refine h_region ?_
            refine o_move rfl (by decide) ?_
            refine o_cmp rfl rfl rfl (by decide) ?_
            refine o_nil ?_
            refine h_condf rfl (by decide) ?_
            refine h_skip ?_
            refine h_region ?_
            refine o_load 0 rfl rfl rfl rfl (by decide) ?_
            refine o_store 3 rfl rfl rfl rfl rfl rfl ?_
            refine o_nil ?_
            refine h_region ?_
            refine o_add rfl rfl (by unfold in64; (try dsimp only); omega) (by decide) ?_
            refine o_move rfl (by decide) ?_
            refine o_nil ?_
            refine back rfl ⟨k + 1, w', f', false, false, hlt, (by rw [hr, drop_k hlt]; simp only [runL, hs]; rfl), (valid_iff w').1 (stepW_valid hs)⟩ (by dsimp only; omega) (.cons _ (.cons _ (.cons_cons _ (.cons_cons _ (.refl _))))) (subT.cons rfl (subT.cons rfl (subT.cons rfl (subT.cons rfl (subT.cons rfl (subT.cons rfl subT.nil))))))
          ·
            cases h2
            refine o_move rfl (by decide) ?_
            refine o_extract rfl rfl (by decide) ?_
            refine o_extract rfl rfl (by decide) ?_
            refine o_alloc (by decide) fun x30 => ?_
            refine o_store 0 rfl rfl rfl rfl rfl rfl ?_
            refine o_assign rfl (by decide) ?_
            refine o_nil ?_
            refine h_seq ?_
            refine h_seq ?_
            refine h_region ?_
            refine o_move rfl (by decide) ?_
            refine o_cmp rfl rfl rfl (by decide) ?_
            refine o_nil ?_
            refine h_condt rfl (by decide) ?_
            refine h_seq ?_
            refine h_region ?_
            refine o_build rfl rfl (by decide) ?_
            refine o_move rfl (by decide) ?_
            refine o_move rfl (by decide) ?_
            refine o_store 2 rfl rfl rfl rfl rfl rfl ?_
            refine o_assign rfl (by decide) ?_
            refine o_assign rfl (by decide) ?_
            refine o_nil ?_
            refine h_ret ?_
            have hq : runM w l = (wd0, (k : Int), 420) := (by simp only [runM]; rw [if_neg (by simp_all), hr, drop_k hlt]; simp only [runL, hs])
            exact retG [] (.cons (resC 2 rfl rfl rfl) (.cons (resT rfl) (.cons (resT rfl) .nil))) (List.nil_sublist _) ⟨_, rfl, rfl, true, true, true, by rw [hq]; rfl⟩
        ·
          obtain rfl : k = l.length := by omega
          refine h_seq ?_
          refine h_region ?_
          refine o_cmp rfl rfl rfl (by decide) ?_
          refine o_nil ?_
          refine h_seq ?_
          refine h_condf rfl (by simp) ?_
          refine h_exit ?_
          refine h_seq ?_
          refine h_region ?_
          refine o_load 1 rfl rfl rfl rfl (by decide) ?_
          refine o_move rfl (by decide) ?_
          refine o_len rfl (by decide) ?_
          refine o_store 0 rfl rfl rfl rfl rfl rfl ?_
          refine o_assign rfl (by decide) ?_
          refine o_assign rfl (by decide) ?_
          refine o_nil ?_
          refine h_ret ?_
          have hq : runM w l = (wk, ((l.length : Nat) : Int), 0) := (by simp only [runM]; rw [if_neg (by simp_all), hr, List.drop_length]; simp only [runL])
          rw [show ((l.length : Nat) : Int) = (((l.map encV).length : Nat) : Int) from by simp] at hq
          exact retG [] (.cons (resC 0 rfl rfl rfl) (.cons (resT rfl) (.cons (resT rfl) .nil))) (List.nil_sublist _) ⟨_, rfl, rfl, g1, g2, g3, by rw [hq]; rfl⟩
    ·
      have g23 : _ = true := g23
      refine o_guardn rfl rfl g23 (by decide) ?_
      refine o_guardn rfl rfl g23 (by decide) ?_
      refine o_pickt rfl g23 rfl (by decide) ?_
      refine o_nil ?_
      refine h_condt rfl rfl ?_
      refine h_seq ?_
      refine h_region ?_
      refine o_build rfl rfl (by decide) ?_
      refine o_store 0 rfl rfl rfl rfl rfl rfl ?_
      refine o_assign rfl (by decide) ?_
      refine o_assign rfl (by decide) ?_
      refine o_nil ?_
      refine h_ret ?_
      have hq : runM w l = (wd0, 0, 420) := (by simp only [runM]; rw [if_pos (by simp_all)])
      exact retG [] (.cons (resC 0 rfl rfl rfl) (.cons (resT rfl) (.cons (resT rfl) .nil))) (List.nil_sublist _) ⟨_, rfl, rfl, true, true, true, by rw [hq]; rfl⟩
  ·
    have g21 : _ = true := g21
    refine o_guardn rfl rfl (by rw [(not_of g21)]; rfl) (by decide) ?_
    refine o_guardn rfl rfl (by rw [(not_of g21)]; rfl) (by decide) ?_
    refine o_pickt rfl (by rw [(not_of g21)]; rfl) rfl (by decide) ?_
    refine o_move rfl (by decide) ?_
    refine o_guardn rfl rfl rfl (by decide) ?_
    refine o_guardn rfl rfl rfl (by decide) ?_
    refine o_guardn rfl rfl rfl (by decide) ?_
    refine o_pickt rfl rfl rfl (by decide) ?_
    refine o_nil ?_
    refine h_condt rfl rfl ?_
    refine h_seq ?_
    refine h_region ?_
    refine o_build rfl rfl (by decide) ?_
    refine o_store 0 rfl rfl rfl rfl rfl rfl ?_
    refine o_assign rfl (by decide) ?_
    refine o_assign rfl (by decide) ?_
    refine o_nil ?_
    refine h_ret ?_
    have hq : runM w l = (wd0, 0, 420) := (by simp only [runM]; rw [if_pos (by simp_all)])
    exact retG [] (.cons (resC 0 rfl rfl rfl) (.cons (resT rfl) (.cons (resT rfl) .nil))) (List.nil_sublist _) ⟨_, rfl, rfl, true, true, true, by rw [hq]; rfl⟩

theorem isPossible_spec (w : Wd) (l : List Ev) (t : Int) (hlen : l.length ≤ 1000000000) (f1 f2 f3 f : Bool) : Fn1 Try.prog 41 [encW w f1 f2 f3, V (l.map encV) f, I t] (B (decide ((runM w l).2.2 = 0) && inM t 0 20000000)) := by
  refine fnE_intro (N := 23) Try.func41 rfl rfl rfl ?_
  intro X
  refine h_seq ?_
  refine h_region ?_
  refine o_box rfl rfl (by decide) fun x33 => ?_
  refine o_assign rfl (by decide) ?_
  refine o_nil ?_
  refine h_seq ?_
  refine h_region ?_
  refine o_load 0 rfl rfl rfl rfl (by decide) ?_
  refine o_move rfl (by decide) ?_
  refine o_callN rfl rfl EntC.out (by decide) (run_spec w l hlen f1 f2 f3 f) fun v h' hr => ?_
  obtain ⟨rfl, r1, r2, r3, rfl⟩ := hr
  refine o_move rfl (by decide) ?_
  refine o_extract rfl rfl (by decide) ?_
  refine o_extract rfl rfl (by decide) ?_
  refine o_extract rfl rfl (by decide) ?_
  refine o_alloc (by decide) fun x34 => ?_
  refine o_store 0 rfl rfl rfl rfl rfl rfl ?_
  refine o_assign rfl (by decide) ?_
  refine o_assign rfl (by decide) ?_
  refine o_nil ?_
  refine h_seq ?_
  refine h_region ?_
  refine o_move rfl (by decide) ?_
  refine o_cmp rfl rfl rfl (by decide) ?_
  refine o_move rfl (by decide) ?_
  refine o_guard rfl rfl (by decide) (fun g36 => ?_) (fun g36 => ?_)
  ·
    have g36 : _ = true := g36
    refine o_move rfl (by decide) ?_
    refine o_guardy rfl rfl g36 (by decide) ?_
    refine o_call1 rfl rfl EntC.out (by decide) (isIn_spec _ _ _) ?_
    refine o_pickt rfl g36 rfl (by decide) ?_
    refine o_assign rfl (by decide) ?_
    refine o_nil ?_
    refine h_ret ?_
    exact ret1' rfl (B_eq (by simp_all))
  ·
    have g36 : _ = false := g36
    refine o_guardn rfl rfl g36 (by decide) ?_
    refine o_pickf rfl g36 rfl (by decide) ?_
    refine o_assign rfl (by decide) ?_
    refine o_nil ?_
    refine h_ret ?_
    exact ret1' rfl (B_eq (by simp_all))

end Go.Proofs.Ytbnonekkjjcdgaa
/- The walks of merge.until, successor, Successor. -/
namespace Go.Proofs.Ytbnonekkjjcdgaa
open Go Go.RowKit Go.Shelf Hp
set_option maxRecDepth 10000
set_option maxHeartbeats 1000000
set_option linter.unusedVariables false
set_option linter.unusedSimpArgs false
attribute [local irreducible] WP WPs FnX IterX YdX RetP PanP Ch Back Join
def untilM (l : List Ev) (t : Int) : List Ev := l.takeWhile fun e => decide (e.t ≤ t)
theorem tw_take {p : Ev → Bool} : ∀ (l : List Ev) (k : Nat), (∀ j, j < k → p (l.getD j dE) = true) → k ≤ l.length → (k = l.length ∨ p (l.getD k dE) = false) → l.takeWhile p = l.take k
  | [], k, _, hk, _ => by simp
  | e :: l, 0, _, _, h => by
    rcases h with h | h
    · simp at h
    · simp at h; simp [h]
  | e :: l, k + 1, ha, hk, h => by
    have h0 := ha 0 (by omega)
    simp at h0
    rw [List.takeWhile_cons, if_pos h0, List.take_succ_cons, tw_take l k (fun j hj => by have := ha (j + 1) (by omega); simpa using this) (by simpa using hk) (by simpa using h)]
theorem tw_get {p : Ev → Bool} : ∀ (l : List Ev) (k : Nat), k < l.length → (∀ j, j ≤ k → p (l.getD j dE) = true) → (l.takeWhile p)[k]? = some (l.getD k dE)
  | [], k, hk, _ => by simp at hk
  | e :: l, 0, _, h => by have h0 := h 0 (by omega); simp at h0; simp [h0]
  | e :: l, k + 1, hk, h => by
    have h0 := h 0 (by omega)
    simp at h0
    rw [List.takeWhile_cons, if_pos h0]
    have := tw_get l k (by simpa using hk) fun j hj => by have := h (j + 1) (by omega); simpa using this
    simpa using this
structure UnI (l : List Ev) (t : Int) (J : Nat → AHeap → Prop) where
  k : Nat
  hb : AHeap
  hk : k ≤ l.length
  hall : ∀ j, j < k → decide ((l.getD j dE).t ≤ t) = true
  hJ : J k hb
theorem all_succ {l : List Ev} {t : Int} {k : Nat} (h : ∀ j, j < k → decide ((l.getD j dE).t ≤ t) = true) (hk : decide ((l.getD k dE).t ≤ t) = true) : ∀ j, j < k + 1 → decide ((l.getD j dE).t ≤ t) = true := fun j hj => by
  rcases Nat.lt_succ_iff_lt_or_eq.1 hj with h1 | h1
  · exact h j h1
  · subst h1; exact hk

theorem until_spec (l : List Ev) (f : Bool) (t : Int) : Fc Try.prog 68 [V (l.map encV) f, I t] [] (fun r h' => ∃ e2 e3, r = .fn 84 [.ptr e2 0, .ptr e3 0] ∧ h' = [(e3, .box 3 [I t]), (e2, .box 53 [V (l.map encV) f])]) := by
  refine fnE_intro (N := 6) Try.func68 rfl rfl rfl ?_
  intro X
  refine h_seq ?_
  refine h_region ?_
  refine o_box rfl rfl (by decide) fun x1 => ?_
  refine o_box rfl rfl (by decide) fun x2 => ?_
  refine o_assign rfl (by decide) ?_
  refine o_nil ?_
  refine h_seq ?_
  refine h_region ?_
  refine o_makeFunc rfl (by decide) ?_
  refine o_assign rfl (by decide) ?_
  refine o_nil ?_
  refine h_ret ?_
  exact retS1 _ rfl (.refl _) ⟨_, rfl, _, _, rfl, rfl⟩

theorem until1_spec (l : List Ev) (hlen : l.length ≤ 1000000000) (f : Bool) (t : Int) (e2 e3 : Nat) (X : Ctx) : IterX Try.prog X 84 [.ptr e2 0, .ptr e3 0] [(e3, .box 3 [I t]), (e2, .box 53 [V (l.map encV) f])] ((untilM l t).map fun e => [encE e]) := by
  refine iterX_intro fun yl J Jx hB hy hJ => ?_
  refine fnX_intro (N := 23) Try.func84 rfl rfl rfl ?_
  skip
  refine h_seq ?_
  refine h_region ?_
  refine o_load 1 rfl rfl rfl rfl (by decide) ?_
  refine o_len rfl (by decide) ?_
  refine o_move rfl (by decide) ?_
  refine o_nil ?_
  refine h_block ?_
  refine h_famS (ι := UnI l t J) (fun i => [(0, .yl yl), (1, .ptr e2 0), (2, .ptr e3 0), (6, V (l.map encV) f), (7, I (((l.map encV).length : Nat) : Int)), (8, I (i.k : Nat))]) (fun i => (e3, .box 3 [I t]) :: (e2, .box 53 [V (l.map encV) f]) :: i.hb) (fun i => l.length - i.k) ⟨0, hB, Nat.zero_le _, fun j hj => by omega, hJ⟩ (.cons_cons _ (.cons_cons _ (.refl _))) (subT.cons rfl (subT.cons rfl (subT.cons rfl (subT.cons rfl (subT.cons rfl (subT.cons rfl subT.nil)))))) ?_
  rintro ⟨k, hb, hk, hall, hJ⟩
  dsimp only
  by_cases hlt : k < l.length
  ·
    refine h_seq ?_
    refine h_region ?_
    refine o_cmp rfl rfl rfl (by decide) ?_
    refine o_nil ?_
    refine h_seq ?_
    refine h_condt rfl (by simp; omega) ?_
    refine h_skip ?_
    refine h_seq ?_
    refine h_block ?_
    refine h_seq ?_
    refine h_region ?_
    refine o_idxv rfl rfl (by omega) (eltV (by simpa using hlt)) rfl (by decide) ?_
    refine o_loadv rfl rfl (by decide) ?_
    refine o_alloc (by decide) fun x4 => ?_
    refine o_store 0 rfl rfl rfl rfl rfl rfl ?_
    refine o_nil ?_
    refine h_seq ?_
    refine h_region ?_
    refine o_faddr rfl rfl (by decide) (by decide) ?_
    refine o_load 0 rfl rfl rfl rfl (by decide) ?_
    refine o_load 1 rfl rfl rfl rfl (by decide) ?_
    refine o_cmp rfl rfl rfl (by decide) ?_
    refine o_move rfl (by decide) ?_
    refine o_guard rfl rfl (by decide) (fun g6 => ?_) (fun g6 => ?_)
    ·
      have g6 : _ = false := g6
      refine o_move rfl (by decide) ?_
      refine o_guardy rfl rfl g6 (by decide) ?_
      refine o_load 0 rfl rfl rfl rfl (by decide) ?_
      refine o_guardy rfl rfl g6 (by decide) ?_
      have ht : decide ((l.getD k dE).t ≤ t) = true := by have := g6; simpa using this
      refine o_yieldR (h2 := [_, _, _]) rfl rfl rfl (by decide) (fun Y' hY => hy Y' hY k [encE (l.getD k dE)] hb (by rw [List.getElem?_map, untilM, tw_get l k (by simpa using hlt) (fun j hj => all_succ hall ht j (by omega))]; rfl) hJ) fun yb h' hr => ?_
      rcases hr with ⟨rfl, hJ'⟩ | ⟨rfl, hJ'⟩
      ·
        refine o_guardy rfl rfl g6 (by decide) ?_
        refine o_not rfl (by decide) ?_
        refine o_pickf rfl g6 rfl (by decide) ?_
        refine o_nil ?_
        refine h_condf rfl rfl ?_
        refine h_skip ?_
        refine h_region ?_
        refine o_add rfl rfl (by unfold in64; (try dsimp only); omega) (by decide) ?_
        refine o_move rfl (by decide) ?_
        refine o_nil ?_
        refine back rfl ⟨k + 1, h', (by omega), all_succ hall ht, hJ'⟩ (by dsimp only; omega) (.cons _ (.cons_cons _ (.cons_cons _ (.refl _)))) (subT.cons rfl (subT.cons rfl (subT.cons rfl (subT.cons rfl (subT.cons rfl (subT.cons rfl subT.nil))))))
      ·
        refine o_guardy rfl rfl g6 (by decide) ?_
        refine o_not rfl (by decide) ?_
        refine o_pickf rfl g6 rfl (by decide) ?_
        refine o_nil ?_
        refine h_condt rfl rfl ?_
        refine h_ret ?_
        exact retS0 h' (.cons _ (.cons _ (.cons _ (.refl _)))) ⟨rfl, .inr hJ'⟩
    ·
      have g6 : _ = true := g6
      refine o_guardn rfl rfl g6 (by decide) ?_
      refine o_guardn rfl rfl g6 (by decide) ?_
      refine o_guardn rfl rfl g6 (by decide) ?_
      refine o_pickt rfl g6 rfl (by decide) ?_
      refine o_nil ?_
      refine h_condt rfl rfl ?_
      refine h_ret ?_
      have ht : decide ((l.getD k dE).t ≤ t) = false := by have := g6; simpa using this
      have hes : ((untilM l t).map fun e => [encE e]).length = k := by rw [untilM, tw_take l _ hall hk (.inr ht)]; simp; try omega
      exact retS0 hb (.cons _ (.cons _ (.cons _ (.refl _)))) ⟨rfl, .inl (hes ▸ hJ)⟩
  ·
    obtain rfl : k = l.length := by omega
    refine h_seq ?_
    refine h_region ?_
    refine o_cmp rfl rfl rfl (by decide) ?_
    refine o_nil ?_
    refine h_seq ?_
    refine h_condf rfl (by simp) ?_
    refine h_exit ?_
    have hes : ((untilM l t).map fun e => [encE e]).length = l.length := by rw [untilM, tw_take l _ hall hk (.inl rfl)]; simp; try omega
    exact retS0 hb (.cons _ (.cons _ (.refl _))) ⟨rfl, .inl (hes ▸ hJ)⟩

def succE (n c : Int) (e : Ev) : Int :=
  if e.a ≠ c then c else if e.kind = 1 then e.b else if e.kind ≠ 4 ∧ inM n e.f (e.to - 1) = true then e.b else if e.kind = 3 then e.c else c
/-- The successor of a carrier for a number by events. -/
def succN (n : Int) (c : Int) (l : List Ev) : Int := l.foldl (succE n) c
theorem succN_take {n c : Int} {l : List Ev} {i : Nat} {e : Ev} (h : l[i]? = some e) : succN n c (l.take (i + 1)) = succE n (succN n c (l.take i)) e := by
  simp [succN, List.take_add_one, h, List.foldl_append]
theorem ev_get {l : List Ev} {i : Nat} {args : List AV} (h : (l.map fun e => [encE e])[i]? = some args) : ∃ e, l[i]? = some e ∧ args = [encE e] := by
  rw [List.getElem?_map] at h
  cases he : l[i]? with
  | none => rw [he] at h; cases h
  | some e => rw [he] at h; cases h; exact ⟨e, rfl, rfl⟩
theorem until_mem {l : List Ev} {t : Int} {e : Ev} (h : e ∈ untilM l t) : e ∈ l := List.takeWhile_sublist _ |>.subset h

theorem successor_spec (l : List Ev) (hlen : l.length ≤ 1000000000) (f : Bool) (c n t : Int) (hl : ∀ e ∈ l, -1000 ≤ e.to ∧ e.to ≤ 1000000000) : Fn1 Try.prog 44 [V (l.map encV) f, I c, I n, I t] (I (succN n c (untilM l t))) := by
  refine fnE_intro (N := 47) Try.func44 rfl rfl rfl ?_
  intro X
  refine h_seq ?_
  refine h_region ?_
  refine o_box rfl rfl (by decide) fun x8 => ?_
  refine o_box rfl rfl (by decide) fun x9 => ?_
  refine o_assign rfl (by decide) ?_
  refine o_nil ?_
  refine h_seq ?_
  refine h_seq ?_
  refine h_region ?_
  refine o_move rfl (by decide) ?_
  refine o_move rfl (by decide) ?_
  refine o_callN rfl rfl EntC.out (by decide) (until_spec l f t) fun v h' hr => ?_
  obtain ⟨e2, e3, rfl, rfl⟩ := hr
  refine o_nil ?_
  refine h_block ?_
  refine h_rangeFunc rfl EntC.out (Split.front [_, _] _) (by decide) (fun Y => until1_spec l hlen f t _ _ Y) (by intro args ha; obtain ⟨p, _, rfl⟩ := List.mem_map.1 ha; rfl) (fun i h1 => ([(x9, OB.box 3 [I n]), (x8, OB.box 3 [I (succN n c ((untilM l t).take i))])] : AHeap).Sublist h1) (fun _ _ => False) (by simp [succN]) ?_ ?_ (by intro c D h' hx; exact hx.elim)
  · intro Y yl i args h1 hget hs
    obtain ⟨e, he, rfl⟩ := ev_get hget
    have hto := hl e (until_mem (List.mem_of_getElem? he))
    refine h_sub _ hs ?_
    refine h_region ?_
    refine o_alloc (by decide) fun x10 => ?_
    refine o_store 0 rfl rfl rfl rfl rfl rfl ?_
    refine o_nil ?_
    refine h_block ?_
    refine h_seq ?_
    refine h_seq ?_
    refine h_region ?_
    refine o_faddr rfl rfl (by decide) (by decide) ?_
    refine o_load 0 rfl rfl rfl rfl (by decide) ?_
    refine o_load 2 rfl rfl rfl rfl (by decide) ?_
    refine o_cmp rfl rfl rfl (by decide) ?_
    refine o_nil ?_
    refine h_cond rfl (fun c12 => ?_) (fun c12 => ?_)
    ·
      refine h_exit ?_
      have hse := succN_take (n := n) (c := c) he
      refine List.Sublist.trans (l₂ := [(x9, OB.box 3 [I n]), (x8, OB.box 3 [_])]) ?_ (.cons _ (.cons_cons _ (.cons_cons _ (.refl _))))
      rw [hse]; simp only [succE]; simp_all [ldA]
    ·
      refine h_skip ?_
      refine h_seq ?_
      refine h_region ?_
      refine o_load 1 rfl rfl rfl rfl (by decide) ?_
      refine o_faddr rfl rfl (by decide) (by decide) ?_
      refine o_faddr rfl rfl (by decide) (by decide) ?_
      refine o_load 0 rfl rfl rfl rfl (by decide) ?_
      refine o_faddr rfl rfl (by decide) (by decide) ?_
      refine o_faddr rfl rfl (by decide) (by decide) ?_
      refine o_load 0 rfl rfl rfl rfl (by decide) ?_
      refine o_sub rfl rfl (by unfold in64; (try dsimp only); omega) (by decide) ?_
      refine o_call1 rfl rfl EntC.out (by decide) (isIn_spec _ _ _) ?_
      refine o_assign rfl (by decide) ?_
      refine o_nil ?_
      refine h_block ?_
      refine h_seq ?_
      refine h_seq ?_
      refine h_region ?_
      refine o_faddr rfl rfl (by decide) (by decide) ?_
      refine o_load 0 rfl rfl rfl rfl (by decide) ?_
      refine o_cmp rfl rfl rfl (by decide) ?_
      refine o_assign rfl (by decide) ?_
      refine o_nil ?_
      refine h_cond rfl (fun c15 => ?_) (fun c15 => ?_)
      ·
        refine h_skip ?_
        refine h_condt rfl c15 ?_
        refine h_region ?_
        refine o_faddr rfl rfl (by decide) (by decide) ?_
        refine o_load 0 rfl rfl rfl rfl (by decide) ?_
        refine o_store 2 rfl rfl rfl rfl rfl rfl ?_
        refine o_nil ?_
        have hse := succN_take (n := n) (c := c) he
        refine List.Sublist.trans (l₂ := [(x9, OB.box 3 [I n]), (x8, OB.box 3 [_])]) ?_ (.cons _ (.cons_cons _ (.cons_cons _ (.refl _))))
        rw [hse]; simp only [succE]; simp_all [ldA]
      ·
        refine h_region ?_
        refine o_faddr rfl rfl (by decide) (by decide) ?_
        refine o_load 0 rfl rfl rfl rfl (by decide) ?_
        refine o_cmp rfl rfl rfl (by decide) ?_
        refine o_move rfl (by decide) ?_
        refine o_guard rfl rfl (by decide) (fun g17 => ?_) (fun g17 => ?_)
        ·
          have g17 : _ = true := g17
          refine o_move rfl (by decide) ?_
          refine o_pickt rfl g17 rfl (by decide) ?_
          refine o_assign rfl (by decide) ?_
          refine o_nil ?_
          refine h_cond rfl (fun c18 => ?_) (fun c18 => ?_)
          ·
            refine h_region ?_
            refine o_faddr rfl rfl (by decide) (by decide) ?_
            refine o_load 0 rfl rfl rfl rfl (by decide) ?_
            refine o_store 2 rfl rfl rfl rfl rfl rfl ?_
            refine o_nil ?_
            have hse := succN_take (n := n) (c := c) he
            refine List.Sublist.trans (l₂ := [(x9, OB.box 3 [I n]), (x8, OB.box 3 [_])]) ?_ (.cons _ (.cons_cons _ (.cons_cons _ (.refl _))))
            rw [hse]; simp only [succE]; simp_all [ldA]
          ·
            refine h_seq ?_
            refine h_region ?_
            refine o_faddr rfl rfl (by decide) (by decide) ?_
            refine o_load 0 rfl rfl rfl rfl (by decide) ?_
            refine o_cmp rfl rfl rfl (by decide) ?_
            refine o_assign rfl (by decide) ?_
            refine o_nil ?_
            refine h_cond rfl (fun c20 => ?_) (fun c20 => ?_)
            ·
              refine h_region ?_
              refine o_faddr rfl rfl (by decide) (by decide) ?_
              refine o_load 0 rfl rfl rfl rfl (by decide) ?_
              refine o_store 2 rfl rfl rfl rfl rfl rfl ?_
              refine o_nil ?_
              have hse := succN_take (n := n) (c := c) he
              refine List.Sublist.trans (l₂ := [(x9, OB.box 3 [I n]), (x8, OB.box 3 [_])]) ?_ (.cons _ (.cons_cons _ (.cons_cons _ (.refl _))))
              rw [hse]; simp only [succE]; simp_all [ldA]
            ·
              refine h_skip ?_
              have hse := succN_take (n := n) (c := c) he
              refine List.Sublist.trans (l₂ := [(x9, OB.box 3 [I n]), (x8, OB.box 3 [_])]) ?_ (.cons _ (.cons_cons _ (.cons_cons _ (.refl _))))
              rw [hse]; simp only [succE]; simp_all [ldA]
        ·
          have g17 : _ = false := g17
          refine o_pickf rfl g17 rfl (by decide) ?_
          refine o_assign rfl (by decide) ?_
          refine o_nil ?_
          refine h_condf rfl rfl ?_
          refine h_seq ?_
          refine h_region ?_
          refine o_faddr rfl rfl (by decide) (by decide) ?_
          refine o_load 0 rfl rfl rfl rfl (by decide) ?_
          refine o_cmp rfl rfl rfl (by decide) ?_
          refine o_assign rfl (by decide) ?_
          refine o_nil ?_
          refine h_cond rfl (fun c22 => ?_) (fun c22 => ?_)
          ·
            refine h_region ?_
            refine o_faddr rfl rfl (by decide) (by decide) ?_
            refine o_load 0 rfl rfl rfl rfl (by decide) ?_
            refine o_store 2 rfl rfl rfl rfl rfl rfl ?_
            refine o_nil ?_
            have hse := succN_take (n := n) (c := c) he
            refine List.Sublist.trans (l₂ := [(x9, OB.box 3 [I n]), (x8, OB.box 3 [_])]) ?_ (.cons _ (.cons_cons _ (.cons_cons _ (.refl _))))
            rw [hse]; simp only [succE]; simp_all [ldA]
          ·
            refine h_skip ?_
            have hse := succN_take (n := n) (c := c) he
            refine List.Sublist.trans (l₂ := [(x9, OB.box 3 [I n]), (x8, OB.box 3 [_])]) ?_ (.cons _ (.cons_cons _ (.cons_cons _ (.refl _))))
            rw [hse]; simp only [succE]; simp_all [ldA]
  · intro D h' hs
    rw [List.length_map, List.take_length] at hs
    refine h_sub _ (.cons_cons _ hs) ?_
    refine h_seq ?_
    refine h_region ?_
    refine o_load 2 rfl rfl rfl rfl (by decide) ?_
    refine o_assign rfl (by decide) ?_
    refine o_nil ?_
    refine h_ret ?_
    exact retD1 [D] rfl (by simp) (by simp) rfl (.refl _) ⟨_, rfl, rfl, rfl⟩

end Go.Proofs.Ytbnonekkjjcdgaa
/- The walks of merge.Successor, Claim. -/
namespace Go.Proofs.Ytbnonekkjjcdgaa
open Go Go.RowKit Go.Shelf Hp
set_option maxRecDepth 10000
set_option maxHeartbeats 1000000
set_option linter.unusedVariables false
set_option linter.unusedSimpArgs false
attribute [local irreducible] WP WPs FnX IterX YdX RetP PanP Ch Back Join
theorem bare_to {e : Ev} (h : bareE e = true) : e.to = 0 := by simp [bareE] at h; exact h.1.2
theorem full_to {e : Ev} (h : fullE e = true) : 0 ≤ e.to ∧ e.to ≤ 100000000 := by simp [fullE] at h; omega
theorem do_to {w w' : Wd} {e : Ev} (h : doW w e = some w') : 0 ≤ e.to ∧ e.to ≤ 100000000 := by
  unfold doW mergeW splitW windW upW at h
  repeat' (first | (split at h) | (cases h; done))
  all_goals
    simp only [Bool.not_eq_false, Bool.and_eq_true] at *
    first
    | (have hb : bareE e = true := by simp_all
       have := bare_to hb; omega)
    | (have hb : fullE e = true := by simp_all
       have := full_to hb; omega)
theorem step_to {w w' : Wd} {e : Ev} (h : stepW w e = some w') : 0 ≤ e.to ∧ e.to ≤ 100000000 := by
  unfold stepW at h
  split at h
  · cases h
  · split at h
    · cases h
    · rename_i hd; exact do_to hd
theorem runL_to : ∀ {l : List Ev} {w : Wd} {i : Int}, (runL w l i).2.2 = 0 → ∀ e ∈ l, 0 ≤ e.to ∧ e.to ≤ 100000000
  | [], _, _, _, e, he => by cases he
  | x :: l, w, i, h, e, he => by
    simp only [runL] at h
    split at h
    · rename_i w' hs
      rcases List.mem_cons.1 he with rfl | he
      · exact step_to hs
      · exact runL_to h e he
    · cases h
theorem run_to {w : Wd} {l : List Ev} (h : (runM w l).2.2 = 0) : ∀ e ∈ l, -1000 ≤ e.to ∧ e.to ≤ 1000000000 := by
  unfold runM at h
  split at h
  · cases h
  · intro e he; have := runL_to h e he; omega
def possM (w : Wd) (l : List Ev) (t : Int) : Bool := decide ((runM w l).2.2 = 0) && inM t 0 20000000
theorem poss_to {w : Wd} {l : List Ev} {t : Int} (h : (decide ((runM w l).2.2 = 0) && inM t 0 20000000) = true) : ∀ e ∈ l, -1000 ≤ e.to ∧ e.to ≤ 1000000000 := by
  simp only [Bool.and_eq_true, decide_eq_true_eq] at h; exact run_to h.1
def succM (w : Wd) (l : List Ev) (c n t : Int) : Int × Int := if !possM w l t || !carOk c || !inM n 0 99999999 then (0, 420) else (succN n c (untilM l t), 0)
structure Cl where
  num : Int
  fr : Int
  to : Int
  hold : Int
  ask : Int
  back : Bool
  deriving DecidableEq
abbrev encC (c : Cl) : AV := .agg [I c.num, I c.fr, I c.to, I c.hold, I c.ask, B c.back]
def claimM (w : Wd) (l : List Ev) (c : Cl) (t : Int) : Cl × Bool :=
  if (possM w l t && carOk c.fr && carOk c.to && inM c.num 0 99999999) = false then (⟨0, 0, 0, 0, 0, false⟩, false) else
  if succN c.num c.fr (untilM l t) = succN c.num c.to (untilM l t) then (⟨0, 0, 0, 0, 0, false⟩, false) else
  ({ c with fr := succN c.num c.fr (untilM l t), to := succN c.num c.to (untilM l t) }, true)

theorem succ_spec (w : Wd) (l : List Ev) (hlen : l.length ≤ 1000000000) (f1 f2 f3 f : Bool) (c n t : Int) : Fn1 Try.prog 50 [encW w f1 f2 f3, V (l.map encV) f, I c, I n, I t] (.tup [I (succM w l c n t).1, I (succM w l c n t).2]) := by
  refine fnE_intro (N := 32) Try.func50 rfl rfl rfl ?_
  intro X
  refine h_seq ?_
  refine h_region ?_
  refine o_box rfl rfl (by decide) fun x1 => ?_
  refine o_assign rfl (by decide) ?_
  refine o_assign rfl (by decide) ?_
  refine o_nil ?_
  refine h_seq ?_
  refine h_seq ?_
  refine h_region ?_
  refine o_load 0 rfl rfl rfl rfl (by decide) ?_
  refine o_move rfl (by decide) ?_
  refine o_move rfl (by decide) ?_
  refine o_call1 rfl rfl EntC.out (by decide) (isPossible_spec w l t hlen f1 f2 f3 f) ?_
  refine o_not rfl (by decide) ?_
  refine o_move rfl (by decide) ?_
  refine o_guard rfl rfl (by decide) (fun g3 => ?_) (fun g3 => ?_)
  ·
    have g3 : _ = false := g3
    refine o_move rfl (by decide) ?_
    refine o_guardy rfl rfl (by rw [(not_of g3)]; rfl) (by decide) ?_
    refine o_call1 rfl rfl EntC.out (by decide) (misCarrier_spec _) ?_
    refine o_guardy rfl rfl (by rw [(not_of g3)]; rfl) (by decide) ?_
    refine o_not rfl (by decide) ?_
    refine o_pickf rfl (by rw [(not_of g3)]; rfl) rfl (by decide) ?_
    refine o_move rfl (by decide) ?_
    refine o_guard rfl rfl (by decide) (fun g5 => ?_) (fun g5 => ?_)
    ·
      have g5 : _ = false := g5
      refine o_move rfl (by decide) ?_
      refine o_guardy rfl rfl (by rw [(not_of g5)]; rfl) (by decide) ?_
      refine o_call1 rfl rfl EntC.out (by decide) (isIn_spec _ _ _) ?_
      refine o_guardy rfl rfl (by rw [(not_of g5)]; rfl) (by decide) ?_
      refine o_not rfl (by decide) ?_
      refine o_pickf rfl (by rw [(not_of g5)]; rfl) rfl (by decide) ?_
      refine o_nil ?_
      refine h_cond rfl (fun c7 => ?_) (fun c7 => ?_)
      ·
        refine h_seq ?_
        refine h_region ?_
        refine o_assign rfl (by decide) ?_
        refine o_assign rfl (by decide) ?_
        refine o_nil ?_
        refine h_ret ?_
        refine ret2' rfl rfl ?_
        simp only [succM, possM]; simp_all [cav_int]; try rfl
      ·
        refine h_skip ?_
        refine h_seq ?_
        refine h_region ?_
        refine o_move rfl (by decide) ?_
        refine o_move rfl (by decide) ?_
        refine o_move rfl (by decide) ?_
        refine o_move rfl (by decide) ?_
        refine o_call1 rfl rfl EntC.out (by decide) (successor_spec l hlen _ _ _ _ (poss_to (w := w) (t := t) (by simp_all))) ?_
        refine o_assign rfl (by decide) ?_
        refine o_assign rfl (by decide) ?_
        refine o_nil ?_
        refine h_ret ?_
        refine ret2' rfl rfl ?_
        simp only [succM, possM]; simp_all [cav_int]; try rfl
    ·
      have g5 : _ = true := g5
      refine o_guardn rfl rfl (by rw [(not_of g5)]; rfl) (by decide) ?_
      refine o_guardn rfl rfl (by rw [(not_of g5)]; rfl) (by decide) ?_
      refine o_pickt rfl (by rw [(not_of g5)]; rfl) rfl (by decide) ?_
      refine o_nil ?_
      refine h_condt rfl rfl ?_
      refine h_seq ?_
      refine h_region ?_
      refine o_assign rfl (by decide) ?_
      refine o_assign rfl (by decide) ?_
      refine o_nil ?_
      refine h_ret ?_
      refine ret2' rfl rfl ?_
      simp only [succM, possM]; simp_all [cav_int]; try rfl
  ·
    have g3 : _ = true := g3
    refine o_guardn rfl rfl (by rw [(not_of g3)]; rfl) (by decide) ?_
    refine o_guardn rfl rfl (by rw [(not_of g3)]; rfl) (by decide) ?_
    refine o_pickt rfl (by rw [(not_of g3)]; rfl) rfl (by decide) ?_
    refine o_move rfl (by decide) ?_
    refine o_guardn rfl rfl rfl (by decide) ?_
    refine o_guardn rfl rfl rfl (by decide) ?_
    refine o_guardn rfl rfl rfl (by decide) ?_
    refine o_pickt rfl rfl rfl (by decide) ?_
    refine o_nil ?_
    refine h_condt rfl rfl ?_
    refine h_seq ?_
    refine h_region ?_
    refine o_assign rfl (by decide) ?_
    refine o_assign rfl (by decide) ?_
    refine o_nil ?_
    refine h_ret ?_
    refine ret2' rfl rfl ?_
    simp only [succM, possM]; simp_all [cav_int]; try rfl

theorem claim_spec (w : Wd) (l : List Ev) (hlen : l.length ≤ 1000000000) (f1 f2 f3 f : Bool) (c : Cl) (t : Int) : Fn1 Try.prog 19 [encW w f1 f2 f3, V (l.map encV) f, encC c, I t] (.tup [encC (claimM w l c t).1, B (claimM w l c t).2]) := by
  refine fnE_intro (N := 57) Try.func19 rfl rfl rfl ?_
  intro X
  refine h_seq ?_
  refine h_region ?_
  refine o_box rfl rfl (by decide) fun x8 => ?_
  refine o_box rfl rfl (by decide) fun x9 => ?_
  refine o_alloc (by decide) fun x10 => ?_
  refine o_assign rfl (by decide) ?_
  refine o_nil ?_
  refine h_seq ?_
  refine h_seq ?_
  refine h_region ?_
  refine o_load 2 rfl rfl rfl rfl (by decide) ?_
  refine o_move rfl (by decide) ?_
  refine o_move rfl (by decide) ?_
  refine o_call1 rfl rfl EntC.out (by decide) (isPossible_spec w l t hlen f1 f2 f3 f) ?_
  refine o_not rfl (by decide) ?_
  refine o_move rfl (by decide) ?_
  refine o_guard rfl rfl (by decide) (fun g12 => ?_) (fun g12 => ?_)
  ·
    have g12 : _ = false := g12
    refine o_faddr rfl rfl (by decide) (by decide) ?_
    refine o_guardy rfl rfl (by rw [(not_of g12)]; rfl) (by decide) ?_
    refine o_load 1 rfl rfl rfl rfl (by decide) ?_
    refine o_guardy rfl rfl (by rw [(not_of g12)]; rfl) (by decide) ?_
    refine o_call1 rfl rfl EntC.out (by decide) (misCarrier_spec _) ?_
    refine o_guardy rfl rfl (by rw [(not_of g12)]; rfl) (by decide) ?_
    refine o_not rfl (by decide) ?_
    refine o_pickf rfl (by rw [(not_of g12)]; rfl) rfl (by decide) ?_
    refine o_move rfl (by decide) ?_
    refine o_guard rfl rfl (by decide) (fun g14 => ?_) (fun g14 => ?_)
    ·
      have g14 : _ = false := g14
      refine o_faddr rfl rfl (by decide) (by decide) ?_
      refine o_guardy rfl rfl (by rw [(not_of g14)]; rfl) (by decide) ?_
      refine o_load 1 rfl rfl rfl rfl (by decide) ?_
      refine o_guardy rfl rfl (by rw [(not_of g14)]; rfl) (by decide) ?_
      refine o_call1 rfl rfl EntC.out (by decide) (misCarrier_spec _) ?_
      refine o_guardy rfl rfl (by rw [(not_of g14)]; rfl) (by decide) ?_
      refine o_not rfl (by decide) ?_
      refine o_pickf rfl (by rw [(not_of g14)]; rfl) rfl (by decide) ?_
      refine o_move rfl (by decide) ?_
      refine o_guard rfl rfl (by decide) (fun g16 => ?_) (fun g16 => ?_)
      ·
        have g16 : _ = false := g16
        refine o_faddr rfl rfl (by decide) (by decide) ?_
        refine o_guardy rfl rfl (by rw [(not_of g16)]; rfl) (by decide) ?_
        refine o_load 1 rfl rfl rfl rfl (by decide) ?_
        refine o_guardy rfl rfl (by rw [(not_of g16)]; rfl) (by decide) ?_
        refine o_call1 rfl rfl EntC.out (by decide) (isIn_spec _ _ _) ?_
        refine o_guardy rfl rfl (by rw [(not_of g16)]; rfl) (by decide) ?_
        refine o_not rfl (by decide) ?_
        refine o_pickf rfl (by rw [(not_of g16)]; rfl) rfl (by decide) ?_
        refine o_nil ?_
        refine h_cond rfl (fun c18 => ?_) (fun c18 => ?_)
        ·
          refine h_seq ?_
          refine h_region ?_
          refine o_build rfl rfl (by decide) ?_
          refine o_store 0 rfl rfl rfl rfl rfl rfl ?_
          refine o_assign rfl (by decide) ?_
          refine o_nil ?_
          refine h_ret ?_
          have hq : claimM w l c t = (⟨0, 0, 0, 0, 0, false⟩, false) := (by unfold claimM; rw [if_pos (c := (possM w l t && carOk c.fr && carOk c.to && inM c.num 0 99999999) = false) (by simp only [possM]; first | (simp_all; done) | (simp_all; intro h1 h2; simp_all))])
          exact retG [] (.cons (resC 0 rfl rfl rfl) (.cons (resT rfl) .nil)) (List.nil_sublist _) ⟨_, rfl, by rw [hq]; rfl, rfl⟩
        ·
          refine h_skip ?_
          refine h_seq ?_
          refine h_draw _ (.cons_cons _ (.cons _ (.cons_cons _ (List.nil_sublist _)))) [(0, .flo), (1, .flo), (2, .val), (3, .flo), (4, .val), (5, .flo), (6, .flo), (7, .flo), (8, .flo), (9, .val), (10, .flo), (11, .val), (12, .flo), (13, .flo), (14, .flo), (15, .sto), (16, .flo), (17, .sto)] mixed (by kernel_rfl) ?_
          refine c_flo rfl rfl (fun Xq rq Qq dq kq => o_move rfl (by decide) kq) ?_
          refine c_flo rfl rfl (fun Xq rq Qq dq kq => o_faddr rfl rfl (by decide) (by decide) kq) ?_
          refine c_val rfl rfl (fun Xq rq Qq dq kq => o_load 1 rfl rfl rfl rfl (by decide) kq) ?_
          refine c_flo rfl rfl (fun Xq rq Qq dq kq => o_faddr rfl rfl (by decide) (by decide) kq) ?_
          refine c_val rfl rfl (fun Xq rq Qq dq kq => o_load 1 rfl rfl rfl rfl (by decide) kq) ?_
          refine c_flo rfl rfl (fun Xq rq Qq dq kq => o_move rfl (by decide) kq) ?_
          refine c_flo rfl rfl (fun Xq rq Qq dq kq => o_call1 rfl rfl EntC.out (by decide) (successor_spec l hlen _ _ _ _ (poss_to (w := w) (t := t) (by simp_all))) kq) ?_
          refine c_flo rfl rfl (fun Xq rq Qq dq kq => o_move rfl (by decide) kq) ?_
          refine c_flo rfl rfl (fun Xq rq Qq dq kq => o_faddr rfl rfl (by decide) (by decide) kq) ?_
          refine c_val rfl rfl (fun Xq rq Qq dq kq => o_load 1 rfl rfl rfl rfl (by decide) kq) ?_
          refine c_flo rfl rfl (fun Xq rq Qq dq kq => o_faddr rfl rfl (by decide) (by decide) kq) ?_
          refine c_val rfl rfl (fun Xq rq Qq dq kq => o_load 1 rfl rfl rfl rfl (by decide) kq) ?_
          refine c_flo rfl rfl (fun Xq rq Qq dq kq => o_move rfl (by decide) kq) ?_
          refine c_flo rfl rfl (fun Xq rq Qq dq kq => o_call1 rfl rfl EntC.out (by decide) (successor_spec l hlen _ _ _ _ (poss_to (w := w) (t := t) (by simp_all))) kq) ?_
          refine c_flo rfl rfl (fun Xq rq Qq dq kq => o_faddr rfl rfl (by decide) (by decide) kq) ?_
          refine c_sto (.cons_cons _ (.cons _ (.cons_cons _ (List.nil_sublist _)))) rfl rfl (fun Xq rq Qq dq kq => o_store 1 rfl rfl rfl rfl rfl rfl kq) ?_
          refine c_flo rfl rfl (fun Xq rq Qq dq kq => o_faddr rfl rfl (by decide) (by decide) kq) ?_
          refine c_sto (.cons_cons _ (.cons _ (.cons_cons _ (List.nil_sublist _)))) rfl rfl (fun Xq rq Qq dq kq => o_store 1 rfl rfl rfl rfl rfl rfl kq) ?_
          refine c_nil ?_
          refine h_seq ?_
          refine h_seq ?_
          refine h_region ?_
          refine o_faddr rfl rfl (by decide) (by decide) ?_
          refine o_load 1 rfl rfl rfl rfl (by decide) ?_
          refine o_faddr rfl rfl (by decide) (by decide) ?_
          refine o_load 1 rfl rfl rfl rfl (by decide) ?_
          refine o_cmp rfl rfl rfl (by decide) ?_
          refine o_nil ?_
          refine h_cond rfl (fun c20 => ?_) (fun c20 => ?_)
          ·
            refine h_seq ?_
            refine h_region ?_
            refine o_build rfl rfl (by decide) ?_
            refine o_store 0 rfl rfl rfl rfl rfl rfl ?_
            refine o_assign rfl (by decide) ?_
            refine o_nil ?_
            refine h_ret ?_
            have hq : claimM w l c t = (⟨0, 0, 0, 0, 0, false⟩, false) := (by unfold claimM; rw [if_neg (c := (possM w l t && carOk c.fr && carOk c.to && inM c.num 0 99999999) = false) (by simp only [possM]; simp_all), if_pos (c := succN c.num c.fr (untilM l t) = succN c.num c.to (untilM l t)) (by simpa using c20)])
            exact retG [] (.cons (resC 0 rfl rfl rfl) (.cons (resT rfl) .nil)) (List.nil_sublist _) ⟨_, rfl, by rw [hq]; rfl, rfl⟩
          ·
            refine h_skip ?_
            refine h_seq ?_
            refine h_region ?_
            refine o_load 1 rfl rfl rfl rfl (by decide) ?_
            refine o_store 0 rfl rfl rfl rfl rfl rfl ?_
            refine o_assign rfl (by decide) ?_
            refine o_nil ?_
            refine h_ret ?_
            have hq : claimM w l c t = ({ c with fr := succN c.num c.fr (untilM l t), to := succN c.num c.to (untilM l t) }, true) := (by unfold claimM; rw [if_neg (c := (possM w l t && carOk c.fr && carOk c.to && inM c.num 0 99999999) = false) (by simp only [possM]; simp_all), if_neg (c := succN c.num c.fr (untilM l t) = succN c.num c.to (untilM l t)) (by simpa using c20)])
            exact retG [] (.cons (resC 0 rfl rfl rfl) (.cons (resT rfl) .nil)) (List.nil_sublist _) ⟨_, rfl, by rw [hq]; rfl, rfl⟩
      ·
        have g16 : _ = true := g16
        refine o_guardn rfl rfl (by rw [(not_of g16)]; rfl) (by decide) ?_
        refine o_guardn rfl rfl (by rw [(not_of g16)]; rfl) (by decide) ?_
        refine o_guardn rfl rfl (by rw [(not_of g16)]; rfl) (by decide) ?_
        refine o_pickt rfl (by rw [(not_of g16)]; rfl) rfl (by decide) ?_
        refine o_nil ?_
        refine h_condt rfl rfl ?_
        refine h_seq ?_
        refine h_region ?_
        refine o_build rfl rfl (by decide) ?_
        refine o_store 0 rfl rfl rfl rfl rfl rfl ?_
        refine o_assign rfl (by decide) ?_
        refine o_nil ?_
        refine h_ret ?_
        have hq : claimM w l c t = (⟨0, 0, 0, 0, 0, false⟩, false) := (by unfold claimM; rw [if_pos (c := (possM w l t && carOk c.fr && carOk c.to && inM c.num 0 99999999) = false) (by simp only [possM]; first | (simp_all; done) | (simp_all; intro h1 h2; simp_all))])
        exact retG [] (.cons (resC 0 rfl rfl rfl) (.cons (resT rfl) .nil)) (List.nil_sublist _) ⟨_, rfl, by rw [hq]; rfl, rfl⟩
    ·
      have g14 : _ = true := g14
      refine o_guardn rfl rfl (by rw [(not_of g14)]; rfl) (by decide) ?_
      refine o_guardn rfl rfl (by rw [(not_of g14)]; rfl) (by decide) ?_
      refine o_guardn rfl rfl (by rw [(not_of g14)]; rfl) (by decide) ?_
      refine o_pickt rfl (by rw [(not_of g14)]; rfl) rfl (by decide) ?_
      refine o_move rfl (by decide) ?_
      refine o_guardn rfl rfl rfl (by decide) ?_
      refine o_guardn rfl rfl rfl (by decide) ?_
      refine o_guardn rfl rfl rfl (by decide) ?_
      refine o_guardn rfl rfl rfl (by decide) ?_
      refine o_pickt rfl rfl rfl (by decide) ?_
      refine o_nil ?_
      refine h_condt rfl rfl ?_
      refine h_seq ?_
      refine h_region ?_
      refine o_build rfl rfl (by decide) ?_
      refine o_store 0 rfl rfl rfl rfl rfl rfl ?_
      refine o_assign rfl (by decide) ?_
      refine o_nil ?_
      refine h_ret ?_
      have hq : claimM w l c t = (⟨0, 0, 0, 0, 0, false⟩, false) := (by unfold claimM; rw [if_pos (c := (possM w l t && carOk c.fr && carOk c.to && inM c.num 0 99999999) = false) (by simp only [possM]; first | (simp_all; done) | (simp_all; intro h1 h2; simp_all))])
      exact retG [] (.cons (resC 0 rfl rfl rfl) (.cons (resT rfl) .nil)) (List.nil_sublist _) ⟨_, rfl, by rw [hq]; rfl, rfl⟩
  ·
    have g12 : _ = true := g12
    refine o_guardn rfl rfl (by rw [(not_of g12)]; rfl) (by decide) ?_
    refine o_guardn rfl rfl (by rw [(not_of g12)]; rfl) (by decide) ?_
    refine o_guardn rfl rfl (by rw [(not_of g12)]; rfl) (by decide) ?_
    refine o_pickt rfl (by rw [(not_of g12)]; rfl) rfl (by decide) ?_
    refine o_move rfl (by decide) ?_
    refine o_guardn rfl rfl rfl (by decide) ?_
    refine o_guardn rfl rfl rfl (by decide) ?_
    refine o_guardn rfl rfl rfl (by decide) ?_
    refine o_guardn rfl rfl rfl (by decide) ?_
    refine o_pickt rfl rfl rfl (by decide) ?_
    refine o_move rfl (by decide) ?_
    refine o_guardn rfl rfl rfl (by decide) ?_
    refine o_guardn rfl rfl rfl (by decide) ?_
    refine o_guardn rfl rfl rfl (by decide) ?_
    refine o_guardn rfl rfl rfl (by decide) ?_
    refine o_pickt rfl rfl rfl (by decide) ?_
    refine o_nil ?_
    refine h_condt rfl rfl ?_
    refine h_seq ?_
    refine h_region ?_
    refine o_build rfl rfl (by decide) ?_
    refine o_store 0 rfl rfl rfl rfl rfl rfl ?_
    refine o_assign rfl (by decide) ?_
    refine o_nil ?_
    refine h_ret ?_
    have hq : claimM w l c t = (⟨0, 0, 0, 0, 0, false⟩, false) := (by unfold claimM; rw [if_pos (c := (possM w l t && carOk c.fr && carOk c.to && inM c.num 0 99999999) = false) (by simp only [possM]; first | (simp_all; done) | (simp_all; intro h1 h2; simp_all))])
    exact retG [] (.cons (resC 0 rfl rfl rfl) (.cons (resT rfl) .nil)) (List.nil_sublist _) ⟨_, rfl, by rw [hq]; rfl, rfl⟩

end Go.Proofs.Ytbnonekkjjcdgaa
