/- The walk of the reference's combine. -/
import Derived.Test.YtbnonekkjjcdgaaRefA
namespace Go.Proofs.Ytbnonekkjjcdgaa
open Go Go.RowKit Go.Shelf Hp
set_option maxRecDepth 10000
set_option maxHeartbeats 1000000
set_option linter.unusedVariables false
set_option linter.unusedSimpArgs false
attribute [local irreducible] WP WPs FnX IterX YdX RetP PanP Ch Back Join
def x1M (way x y : Int) : Int := if (way = 0 ∧ y ≥ 0) ∨ (way = 1 ∧ y ≥ 0) ∨ (way = 2 ∧ y < 0) then y else x
def x2M (way x y : Int) : Int := if way = 1 ∧ y ≥ 0 then -1 else x1M way x y
def x3M (way fr to x y : Int) : Int := if x2M way x y ≥ 0 ∧ x2M way x y = fr then to else x2M way x y
def xR (a b : List Blk) (way fr to n : Int) : Int := x3M way fr to (holderR a n) (holderR b n)
def addR (out : List Blk) (f t x : Int) : List Blk :=
  if x < 0 then out else match out.getLast? with
  | none => [⟨f, t, x⟩]
  | some z => if z.t = f ∧ z.c = x then out.dropLast ++ [⟨z.f, t, z.c⟩] else out ++ [⟨f, t, x⟩]
def outR (a b : List Blk) (way fr to : Int) (e : List Int) : Nat → List Blk
  | 0 => []
  | k + 1 => addR (outR a b way fr to e k) (e.getD k 0) (e.getD (k + 1) 0) (xR a b way fr to (e.getD k 0))
def combR (a b : List Blk) (way fr to : Int) : List Blk × Int :=
  if rvalid (outR a b way fr to (edgesM a b) ((edgesM a b).length - 1)) then (outR a b way fr to (edgesM a b) ((edgesM a b).length - 1), 0) else ([], 130)
theorem addR_len (out : List Blk) (f t x : Int) : (addR out f t x).length ≤ out.length + 1 := by
  unfold addR
  split
  · omega
  · split
    · simp
    · rename_i z hz
      have : out ≠ [] := by intro e; subst e; simp at hz
      have := List.length_pos_iff.2 this
      split <;> simp <;> omega
theorem outR_len (a b : List Blk) (way fr to : Int) (e : List Int) : ∀ k, (outR a b way fr to e k).length ≤ k
  | 0 => by simp [outR]
  | k + 1 => by
    have h1 := outR_len a b way fr to e k
    have h2 := addR_len (outR a b way fr to e k) (e.getD k 0) (e.getD (k + 1) 0) (xR a b way fr to (e.getD k 0))
    simp only [outR]; omega
theorem addR_neg {out : List Blk} {f t x : Int} (h : x < 0) : addR out f t x = out := by simp [addR, h]
theorem addR_nil {f t x : Int} (h : ¬ x < 0) : addR [] f t x = [⟨f, t, x⟩] := by simp [addR, h]
theorem addR_more {out : List Blk} {f t x : Int} (h : ¬ x < 0) (hne : out ≠ []) (hd : ¬ ((out.getLast hne).t = f ∧ (out.getLast hne).c = x)) : addR out f t x = out ++ [⟨f, t, x⟩] := by
  simp only [addR, if_neg h, List.getLast?_eq_some_getLast hne, if_neg hd]
theorem addR_long {out : List Blk} {f t x : Int} (h : ¬ x < 0) (hne : out ≠ []) (hd : (out.getLast hne).t = f ∧ (out.getLast hne).c = x) : addR out f t x = out.dropLast ++ [⟨(out.getLast hne).f, t, (out.getLast hne).c⟩] := by
  simp only [addR, if_neg h, List.getLast?_eq_some_getLast hne, if_pos hd]
theorem lastM {l : List Blk} (hne : l ≠ []) : (l.map encB)[0 + (max ((l.length : Int) - 1) 0).toNat]? = some (encB (l.getLast hne)) := by
  have := List.length_pos_iff.2 hne
  have e : (max ((l.length : Int) - 1) 0).toNat = l.length - 1 := by omega
  rw [Nat.zero_add, e, List.getElem?_map, List.getLast_eq_getElem, List.getElem?_eq_getElem (by omega)]; rfl
structure CrI (o : Nat → List Blk) (n : Nat) where
  i : Nat
  hi : i ≤ n - 1
  ho : o i = []
structure CrJ (o : Nat → List Blk) (n : Nat) where
  i : Nat
  ob : Nat
  c : Nat
  es : List (List PV)
  len : Nat
  hi : i ≤ n - 1
  he : es = (o i).map encB
  hl : len = (o i).length
  hne : o i ≠ []
  hc : len ≤ c
theorem succN' {i : Nat} : ((i : Int) + 1).toNat = i + 1 := by omega

theorem rcombine_spec (a b : List Blk) (hal : a.length ≤ 200000000) (hbl : b.length ≤ 200000000) (fa fb : Bool) (way fr to : Int) : Fn1 Try.prog 77 [V (a.map encB) fa, V (b.map encB) fb, I way, I fr, I to] (encR (combR a b way fr to)) := by
  refine fnE_intro (N := 139) Try.func77 rfl rfl rfl ?_
  intro X
  refine h_seq ?_
  refine h_region ?_
  refine o_assign rfl (by decide) ?_
  refine o_assign rfl (by decide) ?_
  refine o_nil ?_
  refine h_seq ?_
  refine h_region ?_
  refine o_move rfl (by decide) ?_
  refine o_move rfl (by decide) ?_
  refine o_callN rfl rfl EntC.out (by decide) (edges_spec a b (by omega) (by omega) fa fb) fun v h' hr => ?_
  obtain ⟨⟨fe, rfl⟩, rfl⟩ := hr
  have hel : (edgesM a b).length ≤ 2 + 2 * a.length + 2 * b.length := by have h1 := edgesA_len b (edgesA a eg0); have h2 := edgesA_len a eg0; have h4 : eg0.length = 2 := rfl; simp only [edgesM]; omega
  refine o_assign rfl (by decide) ?_
  refine o_nil ?_
  refine h_seq ?_
  refine h_region ?_
  refine o_assign rfl (by decide) ?_
  refine o_nil ?_
  refine h_seq ?_
  refine h_seq ?_
  refine h_region ?_
  refine o_assign rfl (by decide) ?_
  refine o_nil ?_
  refine h_block ?_
  refine h_famS (ι := (CrI (outR a b way fr to (edgesM a b)) (edgesM a b).length) ⊕ (CrJ (outR a b way fr to (edgesM a b)) (edgesM a b).length)) (fun i => match i with | .inl i => [(0, V (a.map encB) fa), (1, V (b.map encB) fb), (2, I way), (3, I fr), (4, I to), (12, V ((edgesM a b).map encI) fe), (13, V [] true), (14, I (i.i : Nat))] | .inr i => [(0, V (a.map encB) fa), (1, V (b.map encB) fb), (2, I way), (3, I fr), (4, I to), (12, V ((edgesM a b).map encI) fe), (13, .os i.ob 3 0 i.len i.c), (14, I (i.i : Nat))]) (fun i => match i with | .inl i => [] | .inr i => (i.ob, .arr 66 3 i.es i.c) :: []) (fun i => match i with | .inl i => (edgesM a b).length - i.i | .inr i => (edgesM a b).length - i.i) (.inl ⟨0, Nat.zero_le _, rfl⟩) (.refl _) (subT.cons rfl (subT.cons rfl (subT.cons rfl (subT.cons rfl (subT.cons rfl (subT.cons rfl (subT.cons rfl (subT.cons rfl subT.nil)))))))) ?_
  rintro (⟨i, hi, ho⟩ | ⟨i, ob, c, es, len, hi, he, hl, hne, hc⟩)
  ·
    dsimp only
    by_cases hlt : i + 1 < (edgesM a b).length
    ·
      have hol := outR_len a b way fr to (edgesM a b) i
      refine h_seq ?_
      refine h_seq ?_
      refine h_region ?_
      refine o_move rfl (by decide) ?_
      refine o_add rfl rfl (by unfold in64; (try dsimp only); omega) (by decide) ?_
      refine o_move rfl (by decide) ?_
      refine o_len rfl (by decide) ?_
      refine o_cmp rfl rfl rfl (by decide) ?_
      refine o_nil ?_
      refine h_condt rfl (by simp; omega) ?_
      refine h_skip ?_
      refine h_seq ?_
      refine h_block ?_
      refine h_seq ?_
      refine h_region ?_
      refine o_move rfl (by decide) ?_
      refine o_move rfl (by decide) ?_
      refine o_move rfl (by decide) ?_
      refine o_idxv rfl rfl (by first | omega | (have := List.length_pos_iff.2 hne; omega)) (eltIn (by first | omega | (simp; omega))) rfl (by decide) ?_
      refine o_loadv rfl rfl (by decide) ?_
      refine o_call1 rfl rfl EntC.out (by decide) (holder_spec a (by omega) fa _) ?_
      refine o_assign rfl (by decide) ?_
      refine o_nil ?_
      refine h_seq ?_
      refine h_region ?_
      refine o_move rfl (by decide) ?_
      refine o_move rfl (by decide) ?_
      refine o_move rfl (by decide) ?_
      refine o_idxv rfl rfl (by first | omega | (have := List.length_pos_iff.2 hne; omega)) (eltIn (by first | omega | (simp; omega))) rfl (by decide) ?_
      refine o_loadv rfl rfl (by decide) ?_
      refine o_call1 rfl rfl EntC.out (by decide) (holder_spec b (by omega) fb _) ?_
      refine o_assign rfl (by decide) ?_
      refine o_nil ?_
      refine h_seqK (ι := Unit) (fun _ => [(0, V (a.map encB) fa), (1, V (b.map encB) fb), (2, I way), (3, I fr), (4, I to), (12, V ((edgesM a b).map encI) fe), (13, V [] true), (14, I (i : Nat)), (16, I (holderR b ((edgesM a b).getD ((i : Nat) : Int).toNat 0))), (15, I (x1M way (holderR a ((edgesM a b).getD ((i : Nat) : Int).toNat 0)) (holderR b ((edgesM a b).getD ((i : Nat) : Int).toNat 0))))]) (fun _ => []) ?_ ?_
      ·
        refine h_seq ?_
        refine h_region ?_
        refine o_move rfl (by decide) ?_
        refine o_cmp rfl rfl rfl (by decide) ?_
        refine o_move rfl (by decide) ?_
        refine o_guard rfl rfl (by decide) (fun g3 => ?_) (fun g3 => ?_)
        ·
          have g3 : _ = true := g3
          refine o_move rfl (by decide) ?_
          refine o_guardy rfl rfl g3 (by decide) ?_
          refine o_cmp rfl rfl rfl (by decide) ?_
          refine o_pickt rfl g3 rfl (by decide) ?_
          refine o_move rfl (by decide) ?_
          refine o_guard rfl rfl (by decide) (fun g5 => ?_) (fun g5 => ?_)
          ·
            have g5 : _ = false := g5
            refine o_move rfl (by decide) ?_
            refine o_guardy rfl rfl g5 (by decide) ?_
            refine o_cmp rfl rfl rfl (by decide) ?_
            refine o_guardy rfl rfl g5 (by decide) ?_
            refine o_move rfl (by decide) ?_
            refine o_guard rfl rfl (by decide) (fun g7 => ?_) (fun g7 => ?_)
            ·
              have g7 : _ = true := g7
              refine o_move rfl (by decide) ?_
              refine o_guardy rfl rfl g7 (by decide) ?_
              refine o_cmp rfl rfl rfl (by decide) ?_
              refine o_guardy rfl rfl g5 (by decide) ?_
              refine o_pickt rfl g7 rfl (by decide) ?_
              refine o_pickf rfl g5 rfl (by decide) ?_
              refine o_move rfl (by decide) ?_
              refine o_guard rfl rfl (by decide) (fun g9 => ?_) (fun g9 => ?_)
              ·
                have g9 : _ = false := g9
                refine o_move rfl (by decide) ?_
                refine o_guardy rfl rfl g9 (by decide) ?_
                refine o_cmp rfl rfl rfl (by decide) ?_
                refine o_guardy rfl rfl g9 (by decide) ?_
                refine o_move rfl (by decide) ?_
                refine o_guard rfl rfl (by decide) (fun g11 => ?_) (fun g11 => ?_)
                ·
                  have g11 : _ = true := g11
                  refine o_move rfl (by decide) ?_
                  refine o_guardy rfl rfl g11 (by decide) ?_
                  refine o_cmp rfl rfl rfl (by decide) ?_
                  refine o_guardy rfl rfl g9 (by decide) ?_
                  refine o_pickt rfl g11 rfl (by decide) ?_
                  refine o_pickf rfl g9 rfl (by decide) ?_
                  refine o_nil ?_
                  refine h_cond rfl (fun c13 => ?_) (fun c13 => ?_)
                  ·
                    refine h_region ?_
                    refine o_move rfl (by decide) ?_
                    refine o_assign rfl (by decide) ?_
                    refine o_nil ?_
                    exact join rfl () (.refl _) (List.nil_sublist _) (subT.cons rfl (subT.cons rfl (subT.cons rfl (subT.cons rfl (subT.cons rfl (subT.cons rfl (subT.cons rfl (subT.cons rfl (subT.cons rfl (subT.cons (congrArg (fun z => some (I z)) (by simp only [x1M]; simp_all <;> (try omega))) subT.nil))))))))))
                  ·
                    refine h_skip ?_
                    exact join rfl () (.refl _) (List.nil_sublist _) (subT.cons rfl (subT.cons rfl (subT.cons rfl (subT.cons rfl (subT.cons rfl (subT.cons rfl (subT.cons rfl (subT.cons rfl (subT.cons rfl (subT.cons (congrArg (fun z => some (I z)) (by simp only [x1M]; simp_all <;> (try omega))) subT.nil))))))))))
                ·
                  have g11 : _ = false := g11
                  refine o_guardn rfl rfl g11 (by decide) ?_
                  refine o_guardy rfl rfl g9 (by decide) ?_
                  refine o_pickf rfl g11 rfl (by decide) ?_
                  refine o_pickf rfl g9 rfl (by decide) ?_
                  refine o_nil ?_
                  refine h_condf rfl rfl ?_
                  refine h_skip ?_
                  exact join rfl () (.refl _) (List.nil_sublist _) (subT.cons rfl (subT.cons rfl (subT.cons rfl (subT.cons rfl (subT.cons rfl (subT.cons rfl (subT.cons rfl (subT.cons rfl (subT.cons rfl (subT.cons (congrArg (fun z => some (I z)) (by simp only [x1M]; simp_all <;> (try omega))) subT.nil))))))))))
              ·
                have g9 : _ = true := g9
                refine o_guardn rfl rfl g9 (by decide) ?_
                refine o_guardn rfl rfl g9 (by decide) ?_
                refine o_guardx rfl rfl (by decide) ?_
                refine o_guardx rfl rfl (by decide) ?_
                refine o_guardn rfl rfl g9 (by decide) ?_
                refine o_pickt rfl g9 rfl (by decide) ?_
                refine o_nil ?_
                refine h_condt rfl rfl ?_
                refine h_region ?_
                refine o_move rfl (by decide) ?_
                refine o_assign rfl (by decide) ?_
                refine o_nil ?_
                exact join rfl () (.refl _) (List.nil_sublist _) (subT.cons rfl (subT.cons rfl (subT.cons rfl (subT.cons rfl (subT.cons rfl (subT.cons rfl (subT.cons rfl (subT.cons rfl (subT.cons rfl (subT.cons (congrArg (fun z => some (I z)) (by simp only [x1M]; simp_all <;> (try omega))) subT.nil))))))))))
            ·
              have g7 : _ = false := g7
              refine o_guardn rfl rfl g7 (by decide) ?_
              refine o_guardy rfl rfl g5 (by decide) ?_
              refine o_pickf rfl g7 rfl (by decide) ?_
              refine o_pickf rfl g5 rfl (by decide) ?_
              refine o_move rfl (by decide) ?_
              refine o_guardy rfl rfl rfl (by decide) ?_
              refine o_move rfl (by decide) ?_
              refine o_guardy rfl rfl rfl (by decide) ?_
              refine o_cmp rfl rfl rfl (by decide) ?_
              refine o_guardy rfl rfl rfl (by decide) ?_
              refine o_move rfl (by decide) ?_
              refine o_guard rfl rfl (by decide) (fun g15 => ?_) (fun g15 => ?_)
              ·
                have g15 : _ = true := g15
                refine o_move rfl (by decide) ?_
                refine o_guardy rfl rfl g15 (by decide) ?_
                refine o_cmp rfl rfl rfl (by decide) ?_
                refine o_guardy rfl rfl rfl (by decide) ?_
                refine o_pickt rfl g15 rfl (by decide) ?_
                refine o_pickf rfl rfl rfl (by decide) ?_
                refine o_nil ?_
                refine h_cond rfl (fun c17 => ?_) (fun c17 => ?_)
                ·
                  refine h_region ?_
                  refine o_move rfl (by decide) ?_
                  refine o_assign rfl (by decide) ?_
                  refine o_nil ?_
                  exact join rfl () (.refl _) (List.nil_sublist _) (subT.cons rfl (subT.cons rfl (subT.cons rfl (subT.cons rfl (subT.cons rfl (subT.cons rfl (subT.cons rfl (subT.cons rfl (subT.cons rfl (subT.cons (congrArg (fun z => some (I z)) (by simp only [x1M]; simp_all <;> (try omega))) subT.nil))))))))))
                ·
                  refine h_skip ?_
                  exact join rfl () (.refl _) (List.nil_sublist _) (subT.cons rfl (subT.cons rfl (subT.cons rfl (subT.cons rfl (subT.cons rfl (subT.cons rfl (subT.cons rfl (subT.cons rfl (subT.cons rfl (subT.cons (congrArg (fun z => some (I z)) (by simp only [x1M]; simp_all <;> (try omega))) subT.nil))))))))))
              ·
                have g15 : _ = false := g15
                refine o_guardn rfl rfl g15 (by decide) ?_
                refine o_guardy rfl rfl rfl (by decide) ?_
                refine o_pickf rfl g15 rfl (by decide) ?_
                refine o_pickf rfl rfl rfl (by decide) ?_
                refine o_nil ?_
                refine h_condf rfl rfl ?_
                refine h_skip ?_
                exact join rfl () (.refl _) (List.nil_sublist _) (subT.cons rfl (subT.cons rfl (subT.cons rfl (subT.cons rfl (subT.cons rfl (subT.cons rfl (subT.cons rfl (subT.cons rfl (subT.cons rfl (subT.cons (congrArg (fun z => some (I z)) (by simp only [x1M]; simp_all <;> (try omega))) subT.nil))))))))))
          ·
            have g5 : _ = true := g5
            refine o_guardn rfl rfl g5 (by decide) ?_
            refine o_guardn rfl rfl g5 (by decide) ?_
            refine o_guardx rfl rfl (by decide) ?_
            refine o_guardx rfl rfl (by decide) ?_
            refine o_guardn rfl rfl g5 (by decide) ?_
            refine o_pickt rfl g5 rfl (by decide) ?_
            refine o_move rfl (by decide) ?_
            refine o_guardn rfl rfl rfl (by decide) ?_
            refine o_guardn rfl rfl rfl (by decide) ?_
            refine o_guardn rfl rfl rfl (by decide) ?_
            refine o_guardx rfl rfl (by decide) ?_
            refine o_guardx rfl rfl (by decide) ?_
            refine o_guardn rfl rfl rfl (by decide) ?_
            refine o_pickt rfl rfl rfl (by decide) ?_
            refine o_nil ?_
            refine h_condt rfl rfl ?_
            refine h_region ?_
            refine o_move rfl (by decide) ?_
            refine o_assign rfl (by decide) ?_
            refine o_nil ?_
            exact join rfl () (.refl _) (List.nil_sublist _) (subT.cons rfl (subT.cons rfl (subT.cons rfl (subT.cons rfl (subT.cons rfl (subT.cons rfl (subT.cons rfl (subT.cons rfl (subT.cons rfl (subT.cons (congrArg (fun z => some (I z)) (by simp only [x1M]; simp_all <;> (try omega))) subT.nil))))))))))
        ·
          have g3 : _ = false := g3
          refine o_guardn rfl rfl g3 (by decide) ?_
          refine o_pickf rfl g3 rfl (by decide) ?_
          refine o_move rfl (by decide) ?_
          refine o_guardy rfl rfl rfl (by decide) ?_
          refine o_move rfl (by decide) ?_
          refine o_guardy rfl rfl rfl (by decide) ?_
          refine o_cmp rfl rfl rfl (by decide) ?_
          refine o_guardy rfl rfl rfl (by decide) ?_
          refine o_move rfl (by decide) ?_
          refine o_guard rfl rfl (by decide) (fun g19 => ?_) (fun g19 => ?_)
          ·
            have g19 : _ = true := g19
            refine o_move rfl (by decide) ?_
            refine o_guardy rfl rfl g19 (by decide) ?_
            refine o_cmp rfl rfl rfl (by decide) ?_
            refine o_guardy rfl rfl rfl (by decide) ?_
            refine o_pickt rfl g19 rfl (by decide) ?_
            refine o_pickf rfl rfl rfl (by decide) ?_
            refine o_move rfl (by decide) ?_
            refine o_guard rfl rfl (by decide) (fun g21 => ?_) (fun g21 => ?_)
            ·
              have g21 : _ = false := g21
              refine o_move rfl (by decide) ?_
              refine o_guardy rfl rfl g21 (by decide) ?_
              refine o_cmp rfl rfl rfl (by decide) ?_
              refine o_guardy rfl rfl g21 (by decide) ?_
              refine o_move rfl (by decide) ?_
              refine o_guard rfl rfl (by decide) (fun g23 => ?_) (fun g23 => ?_)
              ·
                have g23 : _ = true := g23
                refine o_move rfl (by decide) ?_
                refine o_guardy rfl rfl g23 (by decide) ?_
                refine o_cmp rfl rfl rfl (by decide) ?_
                refine o_guardy rfl rfl g21 (by decide) ?_
                refine o_pickt rfl g23 rfl (by decide) ?_
                refine o_pickf rfl g21 rfl (by decide) ?_
                refine o_nil ?_
                refine h_cond rfl (fun c25 => ?_) (fun c25 => ?_)
                ·
                  refine h_region ?_
                  refine o_move rfl (by decide) ?_
                  refine o_assign rfl (by decide) ?_
                  refine o_nil ?_
                  exact join rfl () (.refl _) (List.nil_sublist _) (subT.cons rfl (subT.cons rfl (subT.cons rfl (subT.cons rfl (subT.cons rfl (subT.cons rfl (subT.cons rfl (subT.cons rfl (subT.cons rfl (subT.cons (congrArg (fun z => some (I z)) (by simp only [x1M]; simp_all <;> (try omega))) subT.nil))))))))))
                ·
                  refine h_skip ?_
                  exact join rfl () (.refl _) (List.nil_sublist _) (subT.cons rfl (subT.cons rfl (subT.cons rfl (subT.cons rfl (subT.cons rfl (subT.cons rfl (subT.cons rfl (subT.cons rfl (subT.cons rfl (subT.cons (congrArg (fun z => some (I z)) (by simp only [x1M]; simp_all <;> (try omega))) subT.nil))))))))))
              ·
                have g23 : _ = false := g23
                refine o_guardn rfl rfl g23 (by decide) ?_
                refine o_guardy rfl rfl g21 (by decide) ?_
                refine o_pickf rfl g23 rfl (by decide) ?_
                refine o_pickf rfl g21 rfl (by decide) ?_
                refine o_nil ?_
                refine h_condf rfl rfl ?_
                refine h_skip ?_
                exact join rfl () (.refl _) (List.nil_sublist _) (subT.cons rfl (subT.cons rfl (subT.cons rfl (subT.cons rfl (subT.cons rfl (subT.cons rfl (subT.cons rfl (subT.cons rfl (subT.cons rfl (subT.cons (congrArg (fun z => some (I z)) (by simp only [x1M]; simp_all <;> (try omega))) subT.nil))))))))))
            ·
              have g21 : _ = true := g21
              refine o_guardn rfl rfl g21 (by decide) ?_
              refine o_guardn rfl rfl g21 (by decide) ?_
              refine o_guardx rfl rfl (by decide) ?_
              refine o_guardx rfl rfl (by decide) ?_
              refine o_guardn rfl rfl g21 (by decide) ?_
              refine o_pickt rfl g21 rfl (by decide) ?_
              refine o_nil ?_
              refine h_condt rfl rfl ?_
              refine h_region ?_
              refine o_move rfl (by decide) ?_
              refine o_assign rfl (by decide) ?_
              refine o_nil ?_
              exact join rfl () (.refl _) (List.nil_sublist _) (subT.cons rfl (subT.cons rfl (subT.cons rfl (subT.cons rfl (subT.cons rfl (subT.cons rfl (subT.cons rfl (subT.cons rfl (subT.cons rfl (subT.cons (congrArg (fun z => some (I z)) (by simp only [x1M]; simp_all <;> (try omega))) subT.nil))))))))))
          ·
            have g19 : _ = false := g19
            refine o_guardn rfl rfl g19 (by decide) ?_
            refine o_guardy rfl rfl rfl (by decide) ?_
            refine o_pickf rfl g19 rfl (by decide) ?_
            refine o_pickf rfl rfl rfl (by decide) ?_
            refine o_move rfl (by decide) ?_
            refine o_guardy rfl rfl rfl (by decide) ?_
            refine o_move rfl (by decide) ?_
            refine o_guardy rfl rfl rfl (by decide) ?_
            refine o_cmp rfl rfl rfl (by decide) ?_
            refine o_guardy rfl rfl rfl (by decide) ?_
            refine o_move rfl (by decide) ?_
            refine o_guard rfl rfl (by decide) (fun g27 => ?_) (fun g27 => ?_)
            ·
              have g27 : _ = true := g27
              refine o_move rfl (by decide) ?_
              refine o_guardy rfl rfl g27 (by decide) ?_
              refine o_cmp rfl rfl rfl (by decide) ?_
              refine o_guardy rfl rfl rfl (by decide) ?_
              refine o_pickt rfl g27 rfl (by decide) ?_
              refine o_pickf rfl rfl rfl (by decide) ?_
              refine o_nil ?_
              refine h_cond rfl (fun c29 => ?_) (fun c29 => ?_)
              ·
                refine h_region ?_
                refine o_move rfl (by decide) ?_
                refine o_assign rfl (by decide) ?_
                refine o_nil ?_
                exact join rfl () (.refl _) (List.nil_sublist _) (subT.cons rfl (subT.cons rfl (subT.cons rfl (subT.cons rfl (subT.cons rfl (subT.cons rfl (subT.cons rfl (subT.cons rfl (subT.cons rfl (subT.cons (congrArg (fun z => some (I z)) (by simp only [x1M]; simp_all <;> (try omega))) subT.nil))))))))))
              ·
                refine h_skip ?_
                exact join rfl () (.refl _) (List.nil_sublist _) (subT.cons rfl (subT.cons rfl (subT.cons rfl (subT.cons rfl (subT.cons rfl (subT.cons rfl (subT.cons rfl (subT.cons rfl (subT.cons rfl (subT.cons (congrArg (fun z => some (I z)) (by simp only [x1M]; simp_all <;> (try omega))) subT.nil))))))))))
            ·
              have g27 : _ = false := g27
              refine o_guardn rfl rfl g27 (by decide) ?_
              refine o_guardy rfl rfl rfl (by decide) ?_
              refine o_pickf rfl g27 rfl (by decide) ?_
              refine o_pickf rfl rfl rfl (by decide) ?_
              refine o_nil ?_
              refine h_condf rfl rfl ?_
              refine h_skip ?_
              exact join rfl () (.refl _) (List.nil_sublist _) (subT.cons rfl (subT.cons rfl (subT.cons rfl (subT.cons rfl (subT.cons rfl (subT.cons rfl (subT.cons rfl (subT.cons rfl (subT.cons rfl (subT.cons (congrArg (fun z => some (I z)) (by simp only [x1M]; simp_all <;> (try omega))) subT.nil))))))))))
      ·
        intro _
        refine h_seqK (ι := Unit) (fun _ => [(0, V (a.map encB) fa), (1, V (b.map encB) fb), (2, I way), (3, I fr), (4, I to), (12, V ((edgesM a b).map encI) fe), (13, V [] true), (14, I (i : Nat)), (16, I (holderR b ((edgesM a b).getD ((i : Nat) : Int).toNat 0))), (15, I (x2M way (holderR a ((edgesM a b).getD ((i : Nat) : Int).toNat 0)) (holderR b ((edgesM a b).getD ((i : Nat) : Int).toNat 0))))]) (fun _ => []) ?_ ?_
        ·
          refine h_seq ?_
          refine h_region ?_
          refine o_move rfl (by decide) ?_
          refine o_cmp rfl rfl rfl (by decide) ?_
          refine o_move rfl (by decide) ?_
          refine o_guard rfl rfl (by decide) (fun g31 => ?_) (fun g31 => ?_)
          ·
            have g31 : _ = true := g31
            refine o_move rfl (by decide) ?_
            refine o_guardy rfl rfl g31 (by decide) ?_
            refine o_cmp rfl rfl rfl (by decide) ?_
            refine o_pickt rfl g31 rfl (by decide) ?_
            refine o_nil ?_
            refine h_cond rfl (fun c33 => ?_) (fun c33 => ?_)
            ·
              refine h_region ?_
              refine o_assign rfl (by decide) ?_
              refine o_nil ?_
              exact join rfl () (.refl _) (List.nil_sublist _) (subT.cons rfl (subT.cons rfl (subT.cons rfl (subT.cons rfl (subT.cons rfl (subT.cons rfl (subT.cons rfl (subT.cons rfl (subT.cons rfl (subT.cons (congrArg (fun z => some (I z)) (by simp only [x2M]; simp_all <;> (try omega))) subT.nil))))))))))
            ·
              refine h_skip ?_
              exact join rfl () (.refl _) (List.nil_sublist _) (subT.cons rfl (subT.cons rfl (subT.cons rfl (subT.cons rfl (subT.cons rfl (subT.cons rfl (subT.cons rfl (subT.cons rfl (subT.cons rfl (subT.cons (congrArg (fun z => some (I z)) (by simp only [x2M]; simp_all <;> (try omega))) subT.nil))))))))))
          ·
            have g31 : _ = false := g31
            refine o_guardn rfl rfl g31 (by decide) ?_
            refine o_pickf rfl g31 rfl (by decide) ?_
            refine o_nil ?_
            refine h_condf rfl rfl ?_
            refine h_skip ?_
            exact join rfl () (.refl _) (List.nil_sublist _) (subT.cons rfl (subT.cons rfl (subT.cons rfl (subT.cons rfl (subT.cons rfl (subT.cons rfl (subT.cons rfl (subT.cons rfl (subT.cons rfl (subT.cons (congrArg (fun z => some (I z)) (by simp only [x2M]; simp_all <;> (try omega))) subT.nil))))))))))
        ·
          intro _
          refine h_seqK (ι := Unit) (fun _ => [(0, V (a.map encB) fa), (1, V (b.map encB) fb), (2, I way), (3, I fr), (4, I to), (12, V ((edgesM a b).map encI) fe), (13, V [] true), (14, I (i : Nat)), (16, I (holderR b ((edgesM a b).getD ((i : Nat) : Int).toNat 0))), (15, I (x3M way fr to (holderR a ((edgesM a b).getD ((i : Nat) : Int).toNat 0)) (holderR b ((edgesM a b).getD ((i : Nat) : Int).toNat 0))))]) (fun _ => []) ?_ ?_
          ·
            refine h_seq ?_
            refine h_region ?_
            refine o_move rfl (by decide) ?_
            refine o_cmp rfl rfl rfl (by decide) ?_
            refine o_move rfl (by decide) ?_
            refine o_guard rfl rfl (by decide) (fun g35 => ?_) (fun g35 => ?_)
            ·
              have g35 : _ = true := g35
              refine o_move rfl (by decide) ?_
              refine o_guardy rfl rfl g35 (by decide) ?_
              refine o_move rfl (by decide) ?_
              refine o_guardy rfl rfl g35 (by decide) ?_
              refine o_cmp rfl rfl rfl (by decide) ?_
              refine o_pickt rfl g35 rfl (by decide) ?_
              refine o_nil ?_
              refine h_cond rfl (fun c37 => ?_) (fun c37 => ?_)
              ·
                refine h_region ?_
                refine o_move rfl (by decide) ?_
                refine o_assign rfl (by decide) ?_
                refine o_nil ?_
                exact join rfl () (.refl _) (List.nil_sublist _) (subT.cons rfl (subT.cons rfl (subT.cons rfl (subT.cons rfl (subT.cons rfl (subT.cons rfl (subT.cons rfl (subT.cons rfl (subT.cons rfl (subT.cons (congrArg (fun z => some (I z)) (by simp only [x3M]; simp_all <;> (try omega))) subT.nil))))))))))
              ·
                refine h_skip ?_
                exact join rfl () (.refl _) (List.nil_sublist _) (subT.cons rfl (subT.cons rfl (subT.cons rfl (subT.cons rfl (subT.cons rfl (subT.cons rfl (subT.cons rfl (subT.cons rfl (subT.cons rfl (subT.cons (congrArg (fun z => some (I z)) (by simp only [x3M]; simp_all <;> (try omega))) subT.nil))))))))))
            ·
              have g35 : _ = false := g35
              refine o_guardn rfl rfl g35 (by decide) ?_
              refine o_guardn rfl rfl g35 (by decide) ?_
              refine o_pickf rfl g35 rfl (by decide) ?_
              refine o_nil ?_
              refine h_condf rfl rfl ?_
              refine h_skip ?_
              exact join rfl () (.refl _) (List.nil_sublist _) (subT.cons rfl (subT.cons rfl (subT.cons rfl (subT.cons rfl (subT.cons rfl (subT.cons rfl (subT.cons rfl (subT.cons rfl (subT.cons rfl (subT.cons (congrArg (fun z => some (I z)) (by simp only [x3M]; simp_all <;> (try omega))) subT.nil))))))))))
          ·
            intro _
            refine h_seq ?_
            refine h_seq ?_
            refine h_region ?_
            refine o_move rfl (by decide) ?_
            refine o_cmp rfl rfl rfl (by decide) ?_
            refine o_nil ?_
            refine h_cond rfl (fun c39 => ?_) (fun c39 => ?_)
            ·
              refine h_exit ?_
              refine h_region ?_
              refine o_move rfl (by decide) ?_
              refine o_add rfl rfl (by unfold in64; (try dsimp only); omega) (by decide) ?_
              refine o_assign rfl (by decide) ?_
              refine o_nil ?_
              have hx := c39
              simp only [decide_eq_true_eq, decide_eq_false_iff_not, Int.toNat_natCast] at hx
              have hs : (outR a b way fr to (edgesM a b)) (i + 1) = addR (outR a b way fr to (edgesM a b) i) ((edgesM a b).getD i 0) ((edgesM a b).getD (i + 1) 0) (xR a b way fr to ((edgesM a b).getD i 0)) := rfl
              have hq : (outR a b way fr to (edgesM a b)) (i + 1) = (outR a b way fr to (edgesM a b) i) := by rw [hs]; exact addR_neg hx
              refine back rfl (.inl ⟨i + 1, by omega, by rw [hq]; exact ho⟩) (by dsimp only; omega) (.refl _) (subT.cons rfl (subT.cons rfl (subT.cons rfl (subT.cons rfl (subT.cons rfl (subT.cons rfl (subT.cons rfl (subT.cons rfl subT.nil))))))))
            ·
              refine h_skip ?_
              refine h_seq ?_
              refine h_region ?_
              refine o_move rfl (by decide) ?_
              refine o_len rfl (by decide) ?_
              refine o_assign rfl (by decide) ?_
              refine o_nil ?_
              refine h_seq ?_
              refine h_draw _ (List.nil_sublist _) [(0, .flo), (1, .flo), (2, .flo), (3, .flo), (4, .flo), (5, .flo), (6, .flo), (7, .flo), (8, .flo), (9, .flo), (10, .val), (11, .flo), (12, .flo), (13, .flo), (14, .val), (15, .flo), (16, .flo), (17, .flo), (18, .flo), (19, .flo), (20, .flo), (21, .flo), (22, .flo), (23, .flo), (24, .val), (25, .flo), (26, .flo), (27, .flo)] mixed (by kernel_rfl) ?_
              refine c_flo rfl rfl (fun Xq rq Qq dq kq => o_move rfl (by decide) kq) ?_
              refine c_flo rfl rfl (fun Xq rq Qq dq kq => o_cmp rfl rfl rfl (by decide) kq) ?_
              refine c_flo rfl rfl (fun Xq rq Qq dq kq => o_move rfl (by decide) kq) ?_
              refine c_flo rfl rfl (fun Xq rq Qq dq kq => o_guardn rfl rfl (by decide) (by decide) kq) ?_
              refine c_flo rfl rfl (fun Xq rq Qq dq kq => o_guardn rfl rfl (by decide) (by decide) kq) ?_
              refine c_flo rfl rfl (fun Xq rq Qq dq kq => o_guardn rfl rfl (by decide) (by decide) kq) ?_
              refine c_flo rfl rfl (fun Xq rq Qq dq kq => o_guardn rfl rfl (by decide) (by decide) kq) ?_
              refine c_flo rfl rfl (fun Xq rq Qq dq kq => o_guardn rfl rfl (by decide) (by decide) kq) ?_
              refine c_flo rfl rfl (fun Xq rq Qq dq kq => o_guardn rfl rfl (by decide) (by decide) kq) ?_
              refine c_flo rfl rfl (fun Xq rq Qq dq kq => o_guardn rfl rfl (by decide) (by decide) kq) ?_
              refine c_val rfl rfl (fun Xq rq Qq dq kq => o_guardn rfl rfl (by decide) (by decide) kq) ?_
              refine c_flo rfl rfl (fun Xq rq Qq dq kq => o_guardn rfl rfl (by decide) (by decide) kq) ?_
              refine c_flo rfl rfl (fun Xq rq Qq dq kq => o_guardn rfl rfl (by decide) (by decide) kq) ?_
              refine c_flo rfl rfl (fun Xq rq Qq dq kq => o_guardn rfl rfl (by decide) (by decide) kq) ?_
              refine c_val rfl rfl (fun Xq rq Qq dq kq => o_guardn rfl rfl (by decide) (by decide) kq) ?_
              refine c_flo rfl rfl (fun Xq rq Qq dq kq => o_guardn rfl rfl (by decide) (by decide) kq) ?_
              refine c_flo rfl rfl (fun Xq rq Qq dq kq => o_pickf rfl (by decide) rfl (by decide) kq) ?_
              refine c_flo rfl rfl (fun Xq rq Qq dq kq => o_move rfl (by decide) kq) ?_
              refine c_flo rfl rfl (fun Xq rq Qq dq kq => o_guardn rfl rfl rfl (by decide) kq) ?_
              refine c_flo rfl rfl (fun Xq rq Qq dq kq => o_guardn rfl rfl rfl (by decide) kq) ?_
              refine c_flo rfl rfl (fun Xq rq Qq dq kq => o_guardn rfl rfl rfl (by decide) kq) ?_
              refine c_flo rfl rfl (fun Xq rq Qq dq kq => o_guardn rfl rfl rfl (by decide) kq) ?_
              refine c_flo rfl rfl (fun Xq rq Qq dq kq => o_guardn rfl rfl rfl (by decide) kq) ?_
              refine c_flo rfl rfl (fun Xq rq Qq dq kq => o_guardn rfl rfl rfl (by decide) kq) ?_
              refine c_val rfl rfl (fun Xq rq Qq dq kq => o_guardn rfl rfl rfl (by decide) kq) ?_
              refine c_flo rfl rfl (fun Xq rq Qq dq kq => o_guardn rfl rfl rfl (by decide) kq) ?_
              refine c_flo rfl rfl (fun Xq rq Qq dq kq => o_guardn rfl rfl rfl (by decide) kq) ?_
              refine c_flo rfl rfl (fun Xq rq Qq dq kq => o_pickf rfl rfl rfl (by decide) kq) ?_
              refine c_nil ?_
              refine h_condf rfl rfl ?_
              refine h_draw _ (List.nil_sublist _) [(0, .flo), (1, .flo), (2, .flo), (3, .flo), (4, .val), (5, .flo), (6, .flo), (7, .flo), (8, .flo), (9, .val), (10, .flo), (11, .flo), (12, .flo), (13, .flo), (14, .bar), (15, .bar)] mixed (by kernel_rfl) ?_
              refine c_flo rfl rfl (fun Xq rq Qq dq kq => o_move rfl (by decide) kq) ?_
              refine c_flo rfl rfl (fun Xq rq Qq dq kq => o_move rfl (by decide) kq) ?_
              refine c_flo rfl rfl (fun Xq rq Qq dq kq => o_move rfl (by decide) kq) ?_
              refine c_flo rfl rfl (fun Xq rq Qq dq kq => o_idxv rfl rfl (by first | omega | (have := List.length_pos_iff.2 hne; omega)) (eltIn (by first | omega | (simp; omega))) rfl (by decide) kq) ?_
              refine c_val rfl rfl (fun Xq rq Qq dq kq => o_loadv rfl rfl (by decide) kq) ?_
              refine c_flo rfl rfl (fun Xq rq Qq dq kq => o_move rfl (by decide) kq) ?_
              refine c_flo rfl rfl (fun Xq rq Qq dq kq => o_move rfl (by decide) kq) ?_
              refine c_flo rfl rfl (fun Xq rq Qq dq kq => o_add rfl rfl (by unfold in64; (try dsimp only); omega) (by decide) kq) ?_
              refine c_flo rfl rfl (fun Xq rq Qq dq kq => o_idxv rfl rfl (by first | omega | (have := List.length_pos_iff.2 hne; omega)) (eltIn (by first | omega | (simp; omega))) rfl (by decide) kq) ?_
              refine c_val rfl rfl (fun Xq rq Qq dq kq => o_loadv rfl rfl (by decide) kq) ?_
              refine c_flo rfl rfl (fun Xq rq Qq dq kq => o_build rfl rfl (by decide) kq) ?_
              refine c_flo rfl rfl (fun Xq rq Qq dq kq => o_move rfl (by decide) kq) ?_
              refine c_flo rfl rfl (fun Xq rq Qq dq kq => o_build rfl rfl (by decide) kq) ?_
              refine c_flo rfl rfl (fun Xq rq Qq dq kq => o_buildSlicep rfl (by rfl) (by rfl) (by rfl) (by rfl) (by decide) kq) ?_
              refine c_bar ?_
              refine o_appendv rfl rfl (Src.v _ _) (okB_one rfl) (by simp [chunk]) (by rw [chunk_length]; omega) (by simp [chunk_length]; try omega) (by decide) fun x41 c42 hc43 => ?_
              refine o_assign rfl (by decide) ?_
              refine o_nil ?_
              refine h_region ?_
              refine o_move rfl (by decide) ?_
              refine o_add rfl rfl (by unfold in64; (try dsimp only); omega) (by decide) ?_
              refine o_assign rfl (by decide) ?_
              refine o_nil ?_
              have hx := c39
              simp only [decide_eq_true_eq, decide_eq_false_iff_not, Int.toNat_natCast] at hx
              have hs : (outR a b way fr to (edgesM a b)) (i + 1) = addR (outR a b way fr to (edgesM a b) i) ((edgesM a b).getD i 0) ((edgesM a b).getD (i + 1) 0) (xR a b way fr to ((edgesM a b).getD i 0)) := rfl
              have hq : (outR a b way fr to (edgesM a b)) (i + 1) = [⟨(edgesM a b).getD i 0, (edgesM a b).getD (i + 1) 0, (xR a b way fr to ((edgesM a b).getD i 0))⟩] := by rw [hs, ho]; exact addR_nil hx
              refine back rfl (.inr ⟨i + 1, x41, c42, _, _, by omega, (by rw [hq, ← succN']; rfl), (by rw [hq]; simp [chunk_length]), by rw [hq]; simp, (by simpa [chunk_length] using hc43)⟩) (by dsimp only; omega) (.cons_cons _ (.refl _)) (subT.cons rfl (subT.cons rfl (subT.cons rfl (subT.cons rfl (subT.cons rfl (subT.cons rfl (subT.cons rfl (subT.cons rfl subT.nil))))))))
    ·
      have hol := outR_len a b way fr to (edgesM a b) i
      have hie : i = (edgesM a b).length - 1 := by omega
      refine h_seq ?_
      refine h_seq ?_
      refine h_region ?_
      refine o_move rfl (by decide) ?_
      refine o_add rfl rfl (by unfold in64; (try dsimp only); omega) (by decide) ?_
      refine o_move rfl (by decide) ?_
      refine o_len rfl (by decide) ?_
      refine o_cmp rfl rfl rfl (by decide) ?_
      refine o_nil ?_
      refine h_condf rfl (by simp; omega) ?_
      refine h_exit ?_
      refine h_seq ?_
      refine h_seq ?_
      refine h_region ?_
      refine o_move rfl (by decide) ?_
      refine o_call1 rfl rfl EntC.out (by decide) (rvalid_spec ([] : List Blk) (by simp) true) ?_
      rw [← ho]
      refine o_not rfl (by decide) ?_
      refine o_nil ?_
      refine h_cond rfl (fun c46 => ?_) (fun c46 => ?_)
      ·
        refine h_seq ?_
        refine h_region ?_
        refine o_assign rfl (by decide) ?_
        refine o_assign rfl (by decide) ?_
        refine o_nil ?_
        refine h_ret ?_
        have hq : combR a b way fr to = ([], 130) := by unfold combR; rw [← hie]; rw [if_neg (by simp_all)]
        exact retG [] (.cons (resT rfl) (.cons (resT rfl) .nil)) (List.nil_sublist _) ⟨_, rfl, by rw [hq]; rfl, rfl⟩
      ·
        refine h_skip ?_
        refine h_seq ?_
        refine h_region ?_
        refine o_move rfl (by decide) ?_
        refine o_assign rfl (by decide) ?_
        refine o_assign rfl (by decide) ?_
        refine o_nil ?_
        refine h_ret ?_
        have hq : combR a b way fr to = ((outR a b way fr to (edgesM a b) i), 0) := by unfold combR; rw [← hie]; rw [if_pos (by simp_all)]
        exact retG [] (.cons (resT rfl) (.cons (resT rfl) .nil)) (List.nil_sublist _) ⟨_, rfl, by rw [hq, ho]; rfl, rfl⟩
  ·
    dsimp only
    subst he; subst hl
    by_cases hlt : i + 1 < (edgesM a b).length
    ·
      have hol := outR_len a b way fr to (edgesM a b) i
      refine h_seq ?_
      refine h_seq ?_
      refine h_region ?_
      refine o_move rfl (by decide) ?_
      refine o_add rfl rfl (by unfold in64; (try dsimp only); omega) (by decide) ?_
      refine o_move rfl (by decide) ?_
      refine o_len rfl (by decide) ?_
      refine o_cmp rfl rfl rfl (by decide) ?_
      refine o_nil ?_
      refine h_condt rfl (by simp; omega) ?_
      refine h_skip ?_
      refine h_seq ?_
      refine h_block ?_
      refine h_seq ?_
      refine h_region ?_
      refine o_move rfl (by decide) ?_
      refine o_move rfl (by decide) ?_
      refine o_move rfl (by decide) ?_
      refine o_idxv rfl rfl (by first | omega | (have := List.length_pos_iff.2 hne; omega)) (eltIn (by first | omega | (simp; omega))) rfl (by decide) ?_
      refine o_loadv rfl rfl (by decide) ?_
      refine o_call1 rfl rfl EntC.out (by decide) (holder_spec a (by omega) fa _) ?_
      refine o_assign rfl (by decide) ?_
      refine o_nil ?_
      refine h_seq ?_
      refine h_region ?_
      refine o_move rfl (by decide) ?_
      refine o_move rfl (by decide) ?_
      refine o_move rfl (by decide) ?_
      refine o_idxv rfl rfl (by first | omega | (have := List.length_pos_iff.2 hne; omega)) (eltIn (by first | omega | (simp; omega))) rfl (by decide) ?_
      refine o_loadv rfl rfl (by decide) ?_
      refine o_call1 rfl rfl EntC.out (by decide) (holder_spec b (by omega) fb _) ?_
      refine o_assign rfl (by decide) ?_
      refine o_nil ?_
      refine h_seqK (ι := Unit) (fun _ => [(0, V (a.map encB) fa), (1, V (b.map encB) fb), (2, I way), (3, I fr), (4, I to), (12, V ((edgesM a b).map encI) fe), (13, .os ob 3 0 (outR a b way fr to (edgesM a b) i).length c), (14, I (i : Nat)), (16, I (holderR b ((edgesM a b).getD ((i : Nat) : Int).toNat 0))), (15, I (x1M way (holderR a ((edgesM a b).getD ((i : Nat) : Int).toNat 0)) (holderR b ((edgesM a b).getD ((i : Nat) : Int).toNat 0))))]) (fun _ => [(ob, .arr 66 3 ((outR a b way fr to (edgesM a b) i).map encB) c)]) ?_ ?_
      ·
        refine h_seq ?_
        refine h_region ?_
        refine o_move rfl (by decide) ?_
        refine o_cmp rfl rfl rfl (by decide) ?_
        refine o_move rfl (by decide) ?_
        refine o_guard rfl rfl (by decide) (fun g49 => ?_) (fun g49 => ?_)
        ·
          have g49 : _ = true := g49
          refine o_move rfl (by decide) ?_
          refine o_guardy rfl rfl g49 (by decide) ?_
          refine o_cmp rfl rfl rfl (by decide) ?_
          refine o_pickt rfl g49 rfl (by decide) ?_
          refine o_move rfl (by decide) ?_
          refine o_guard rfl rfl (by decide) (fun g51 => ?_) (fun g51 => ?_)
          ·
            have g51 : _ = false := g51
            refine o_move rfl (by decide) ?_
            refine o_guardy rfl rfl g51 (by decide) ?_
            refine o_cmp rfl rfl rfl (by decide) ?_
            refine o_guardy rfl rfl g51 (by decide) ?_
            refine o_move rfl (by decide) ?_
            refine o_guard rfl rfl (by decide) (fun g53 => ?_) (fun g53 => ?_)
            ·
              have g53 : _ = true := g53
              refine o_move rfl (by decide) ?_
              refine o_guardy rfl rfl g53 (by decide) ?_
              refine o_cmp rfl rfl rfl (by decide) ?_
              refine o_guardy rfl rfl g51 (by decide) ?_
              refine o_pickt rfl g53 rfl (by decide) ?_
              refine o_pickf rfl g51 rfl (by decide) ?_
              refine o_move rfl (by decide) ?_
              refine o_guard rfl rfl (by decide) (fun g55 => ?_) (fun g55 => ?_)
              ·
                have g55 : _ = false := g55
                refine o_move rfl (by decide) ?_
                refine o_guardy rfl rfl g55 (by decide) ?_
                refine o_cmp rfl rfl rfl (by decide) ?_
                refine o_guardy rfl rfl g55 (by decide) ?_
                refine o_move rfl (by decide) ?_
                refine o_guard rfl rfl (by decide) (fun g57 => ?_) (fun g57 => ?_)
                ·
                  have g57 : _ = true := g57
                  refine o_move rfl (by decide) ?_
                  refine o_guardy rfl rfl g57 (by decide) ?_
                  refine o_cmp rfl rfl rfl (by decide) ?_
                  refine o_guardy rfl rfl g55 (by decide) ?_
                  refine o_pickt rfl g57 rfl (by decide) ?_
                  refine o_pickf rfl g55 rfl (by decide) ?_
                  refine o_nil ?_
                  refine h_cond rfl (fun c59 => ?_) (fun c59 => ?_)
                  ·
                    refine h_region ?_
                    refine o_move rfl (by decide) ?_
                    refine o_assign rfl (by decide) ?_
                    refine o_nil ?_
                    exact join rfl () (.refl _) (.cons_cons _ (List.nil_sublist _)) (subT.cons rfl (subT.cons rfl (subT.cons rfl (subT.cons rfl (subT.cons rfl (subT.cons rfl (subT.cons rfl (subT.cons rfl (subT.cons rfl (subT.cons (congrArg (fun z => some (I z)) (by simp only [x1M]; simp_all <;> (try omega))) subT.nil))))))))))
                  ·
                    refine h_skip ?_
                    exact join rfl () (.refl _) (.cons_cons _ (List.nil_sublist _)) (subT.cons rfl (subT.cons rfl (subT.cons rfl (subT.cons rfl (subT.cons rfl (subT.cons rfl (subT.cons rfl (subT.cons rfl (subT.cons rfl (subT.cons (congrArg (fun z => some (I z)) (by simp only [x1M]; simp_all <;> (try omega))) subT.nil))))))))))
                ·
                  have g57 : _ = false := g57
                  refine o_guardn rfl rfl g57 (by decide) ?_
                  refine o_guardy rfl rfl g55 (by decide) ?_
                  refine o_pickf rfl g57 rfl (by decide) ?_
                  refine o_pickf rfl g55 rfl (by decide) ?_
                  refine o_nil ?_
                  refine h_condf rfl rfl ?_
                  refine h_skip ?_
                  exact join rfl () (.refl _) (.cons_cons _ (List.nil_sublist _)) (subT.cons rfl (subT.cons rfl (subT.cons rfl (subT.cons rfl (subT.cons rfl (subT.cons rfl (subT.cons rfl (subT.cons rfl (subT.cons rfl (subT.cons (congrArg (fun z => some (I z)) (by simp only [x1M]; simp_all <;> (try omega))) subT.nil))))))))))
              ·
                have g55 : _ = true := g55
                refine o_guardn rfl rfl g55 (by decide) ?_
                refine o_guardn rfl rfl g55 (by decide) ?_
                refine o_guardx rfl rfl (by decide) ?_
                refine o_guardx rfl rfl (by decide) ?_
                refine o_guardn rfl rfl g55 (by decide) ?_
                refine o_pickt rfl g55 rfl (by decide) ?_
                refine o_nil ?_
                refine h_condt rfl rfl ?_
                refine h_region ?_
                refine o_move rfl (by decide) ?_
                refine o_assign rfl (by decide) ?_
                refine o_nil ?_
                exact join rfl () (.refl _) (.cons_cons _ (List.nil_sublist _)) (subT.cons rfl (subT.cons rfl (subT.cons rfl (subT.cons rfl (subT.cons rfl (subT.cons rfl (subT.cons rfl (subT.cons rfl (subT.cons rfl (subT.cons (congrArg (fun z => some (I z)) (by simp only [x1M]; simp_all <;> (try omega))) subT.nil))))))))))
            ·
              have g53 : _ = false := g53
              refine o_guardn rfl rfl g53 (by decide) ?_
              refine o_guardy rfl rfl g51 (by decide) ?_
              refine o_pickf rfl g53 rfl (by decide) ?_
              refine o_pickf rfl g51 rfl (by decide) ?_
              refine o_move rfl (by decide) ?_
              refine o_guardy rfl rfl rfl (by decide) ?_
              refine o_move rfl (by decide) ?_
              refine o_guardy rfl rfl rfl (by decide) ?_
              refine o_cmp rfl rfl rfl (by decide) ?_
              refine o_guardy rfl rfl rfl (by decide) ?_
              refine o_move rfl (by decide) ?_
              refine o_guard rfl rfl (by decide) (fun g61 => ?_) (fun g61 => ?_)
              ·
                have g61 : _ = true := g61
                refine o_move rfl (by decide) ?_
                refine o_guardy rfl rfl g61 (by decide) ?_
                refine o_cmp rfl rfl rfl (by decide) ?_
                refine o_guardy rfl rfl rfl (by decide) ?_
                refine o_pickt rfl g61 rfl (by decide) ?_
                refine o_pickf rfl rfl rfl (by decide) ?_
                refine o_nil ?_
                refine h_cond rfl (fun c63 => ?_) (fun c63 => ?_)
                ·
                  refine h_region ?_
                  refine o_move rfl (by decide) ?_
                  refine o_assign rfl (by decide) ?_
                  refine o_nil ?_
                  exact join rfl () (.refl _) (.cons_cons _ (List.nil_sublist _)) (subT.cons rfl (subT.cons rfl (subT.cons rfl (subT.cons rfl (subT.cons rfl (subT.cons rfl (subT.cons rfl (subT.cons rfl (subT.cons rfl (subT.cons (congrArg (fun z => some (I z)) (by simp only [x1M]; simp_all <;> (try omega))) subT.nil))))))))))
                ·
                  refine h_skip ?_
                  exact join rfl () (.refl _) (.cons_cons _ (List.nil_sublist _)) (subT.cons rfl (subT.cons rfl (subT.cons rfl (subT.cons rfl (subT.cons rfl (subT.cons rfl (subT.cons rfl (subT.cons rfl (subT.cons rfl (subT.cons (congrArg (fun z => some (I z)) (by simp only [x1M]; simp_all <;> (try omega))) subT.nil))))))))))
              ·
                have g61 : _ = false := g61
                refine o_guardn rfl rfl g61 (by decide) ?_
                refine o_guardy rfl rfl rfl (by decide) ?_
                refine o_pickf rfl g61 rfl (by decide) ?_
                refine o_pickf rfl rfl rfl (by decide) ?_
                refine o_nil ?_
                refine h_condf rfl rfl ?_
                refine h_skip ?_
                exact join rfl () (.refl _) (.cons_cons _ (List.nil_sublist _)) (subT.cons rfl (subT.cons rfl (subT.cons rfl (subT.cons rfl (subT.cons rfl (subT.cons rfl (subT.cons rfl (subT.cons rfl (subT.cons rfl (subT.cons (congrArg (fun z => some (I z)) (by simp only [x1M]; simp_all <;> (try omega))) subT.nil))))))))))
          ·
            have g51 : _ = true := g51
            refine o_guardn rfl rfl g51 (by decide) ?_
            refine o_guardn rfl rfl g51 (by decide) ?_
            refine o_guardx rfl rfl (by decide) ?_
            refine o_guardx rfl rfl (by decide) ?_
            refine o_guardn rfl rfl g51 (by decide) ?_
            refine o_pickt rfl g51 rfl (by decide) ?_
            refine o_move rfl (by decide) ?_
            refine o_guardn rfl rfl rfl (by decide) ?_
            refine o_guardn rfl rfl rfl (by decide) ?_
            refine o_guardn rfl rfl rfl (by decide) ?_
            refine o_guardx rfl rfl (by decide) ?_
            refine o_guardx rfl rfl (by decide) ?_
            refine o_guardn rfl rfl rfl (by decide) ?_
            refine o_pickt rfl rfl rfl (by decide) ?_
            refine o_nil ?_
            refine h_condt rfl rfl ?_
            refine h_region ?_
            refine o_move rfl (by decide) ?_
            refine o_assign rfl (by decide) ?_
            refine o_nil ?_
            exact join rfl () (.refl _) (.cons_cons _ (List.nil_sublist _)) (subT.cons rfl (subT.cons rfl (subT.cons rfl (subT.cons rfl (subT.cons rfl (subT.cons rfl (subT.cons rfl (subT.cons rfl (subT.cons rfl (subT.cons (congrArg (fun z => some (I z)) (by simp only [x1M]; simp_all <;> (try omega))) subT.nil))))))))))
        ·
          have g49 : _ = false := g49
          refine o_guardn rfl rfl g49 (by decide) ?_
          refine o_pickf rfl g49 rfl (by decide) ?_
          refine o_move rfl (by decide) ?_
          refine o_guardy rfl rfl rfl (by decide) ?_
          refine o_move rfl (by decide) ?_
          refine o_guardy rfl rfl rfl (by decide) ?_
          refine o_cmp rfl rfl rfl (by decide) ?_
          refine o_guardy rfl rfl rfl (by decide) ?_
          refine o_move rfl (by decide) ?_
          refine o_guard rfl rfl (by decide) (fun g65 => ?_) (fun g65 => ?_)
          ·
            have g65 : _ = true := g65
            refine o_move rfl (by decide) ?_
            refine o_guardy rfl rfl g65 (by decide) ?_
            refine o_cmp rfl rfl rfl (by decide) ?_
            refine o_guardy rfl rfl rfl (by decide) ?_
            refine o_pickt rfl g65 rfl (by decide) ?_
            refine o_pickf rfl rfl rfl (by decide) ?_
            refine o_move rfl (by decide) ?_
            refine o_guard rfl rfl (by decide) (fun g67 => ?_) (fun g67 => ?_)
            ·
              have g67 : _ = false := g67
              refine o_move rfl (by decide) ?_
              refine o_guardy rfl rfl g67 (by decide) ?_
              refine o_cmp rfl rfl rfl (by decide) ?_
              refine o_guardy rfl rfl g67 (by decide) ?_
              refine o_move rfl (by decide) ?_
              refine o_guard rfl rfl (by decide) (fun g69 => ?_) (fun g69 => ?_)
              ·
                have g69 : _ = true := g69
                refine o_move rfl (by decide) ?_
                refine o_guardy rfl rfl g69 (by decide) ?_
                refine o_cmp rfl rfl rfl (by decide) ?_
                refine o_guardy rfl rfl g67 (by decide) ?_
                refine o_pickt rfl g69 rfl (by decide) ?_
                refine o_pickf rfl g67 rfl (by decide) ?_
                refine o_nil ?_
                refine h_cond rfl (fun c71 => ?_) (fun c71 => ?_)
                ·
                  refine h_region ?_
                  refine o_move rfl (by decide) ?_
                  refine o_assign rfl (by decide) ?_
                  refine o_nil ?_
                  exact join rfl () (.refl _) (.cons_cons _ (List.nil_sublist _)) (subT.cons rfl (subT.cons rfl (subT.cons rfl (subT.cons rfl (subT.cons rfl (subT.cons rfl (subT.cons rfl (subT.cons rfl (subT.cons rfl (subT.cons (congrArg (fun z => some (I z)) (by simp only [x1M]; simp_all <;> (try omega))) subT.nil))))))))))
                ·
                  refine h_skip ?_
                  exact join rfl () (.refl _) (.cons_cons _ (List.nil_sublist _)) (subT.cons rfl (subT.cons rfl (subT.cons rfl (subT.cons rfl (subT.cons rfl (subT.cons rfl (subT.cons rfl (subT.cons rfl (subT.cons rfl (subT.cons (congrArg (fun z => some (I z)) (by simp only [x1M]; simp_all <;> (try omega))) subT.nil))))))))))
              ·
                have g69 : _ = false := g69
                refine o_guardn rfl rfl g69 (by decide) ?_
                refine o_guardy rfl rfl g67 (by decide) ?_
                refine o_pickf rfl g69 rfl (by decide) ?_
                refine o_pickf rfl g67 rfl (by decide) ?_
                refine o_nil ?_
                refine h_condf rfl rfl ?_
                refine h_skip ?_
                exact join rfl () (.refl _) (.cons_cons _ (List.nil_sublist _)) (subT.cons rfl (subT.cons rfl (subT.cons rfl (subT.cons rfl (subT.cons rfl (subT.cons rfl (subT.cons rfl (subT.cons rfl (subT.cons rfl (subT.cons (congrArg (fun z => some (I z)) (by simp only [x1M]; simp_all <;> (try omega))) subT.nil))))))))))
            ·
              have g67 : _ = true := g67
              refine o_guardn rfl rfl g67 (by decide) ?_
              refine o_guardn rfl rfl g67 (by decide) ?_
              refine o_guardx rfl rfl (by decide) ?_
              refine o_guardx rfl rfl (by decide) ?_
              refine o_guardn rfl rfl g67 (by decide) ?_
              refine o_pickt rfl g67 rfl (by decide) ?_
              refine o_nil ?_
              refine h_condt rfl rfl ?_
              refine h_region ?_
              refine o_move rfl (by decide) ?_
              refine o_assign rfl (by decide) ?_
              refine o_nil ?_
              exact join rfl () (.refl _) (.cons_cons _ (List.nil_sublist _)) (subT.cons rfl (subT.cons rfl (subT.cons rfl (subT.cons rfl (subT.cons rfl (subT.cons rfl (subT.cons rfl (subT.cons rfl (subT.cons rfl (subT.cons (congrArg (fun z => some (I z)) (by simp only [x1M]; simp_all <;> (try omega))) subT.nil))))))))))
          ·
            have g65 : _ = false := g65
            refine o_guardn rfl rfl g65 (by decide) ?_
            refine o_guardy rfl rfl rfl (by decide) ?_
            refine o_pickf rfl g65 rfl (by decide) ?_
            refine o_pickf rfl rfl rfl (by decide) ?_
            refine o_move rfl (by decide) ?_
            refine o_guardy rfl rfl rfl (by decide) ?_
            refine o_move rfl (by decide) ?_
            refine o_guardy rfl rfl rfl (by decide) ?_
            refine o_cmp rfl rfl rfl (by decide) ?_
            refine o_guardy rfl rfl rfl (by decide) ?_
            refine o_move rfl (by decide) ?_
            refine o_guard rfl rfl (by decide) (fun g73 => ?_) (fun g73 => ?_)
            ·
              have g73 : _ = true := g73
              refine o_move rfl (by decide) ?_
              refine o_guardy rfl rfl g73 (by decide) ?_
              refine o_cmp rfl rfl rfl (by decide) ?_
              refine o_guardy rfl rfl rfl (by decide) ?_
              refine o_pickt rfl g73 rfl (by decide) ?_
              refine o_pickf rfl rfl rfl (by decide) ?_
              refine o_nil ?_
              refine h_cond rfl (fun c75 => ?_) (fun c75 => ?_)
              ·
                refine h_region ?_
                refine o_move rfl (by decide) ?_
                refine o_assign rfl (by decide) ?_
                refine o_nil ?_
                exact join rfl () (.refl _) (.cons_cons _ (List.nil_sublist _)) (subT.cons rfl (subT.cons rfl (subT.cons rfl (subT.cons rfl (subT.cons rfl (subT.cons rfl (subT.cons rfl (subT.cons rfl (subT.cons rfl (subT.cons (congrArg (fun z => some (I z)) (by simp only [x1M]; simp_all <;> (try omega))) subT.nil))))))))))
              ·
                refine h_skip ?_
                exact join rfl () (.refl _) (.cons_cons _ (List.nil_sublist _)) (subT.cons rfl (subT.cons rfl (subT.cons rfl (subT.cons rfl (subT.cons rfl (subT.cons rfl (subT.cons rfl (subT.cons rfl (subT.cons rfl (subT.cons (congrArg (fun z => some (I z)) (by simp only [x1M]; simp_all <;> (try omega))) subT.nil))))))))))
            ·
              have g73 : _ = false := g73
              refine o_guardn rfl rfl g73 (by decide) ?_
              refine o_guardy rfl rfl rfl (by decide) ?_
              refine o_pickf rfl g73 rfl (by decide) ?_
              refine o_pickf rfl rfl rfl (by decide) ?_
              refine o_nil ?_
              refine h_condf rfl rfl ?_
              refine h_skip ?_
              exact join rfl () (.refl _) (.cons_cons _ (List.nil_sublist _)) (subT.cons rfl (subT.cons rfl (subT.cons rfl (subT.cons rfl (subT.cons rfl (subT.cons rfl (subT.cons rfl (subT.cons rfl (subT.cons rfl (subT.cons (congrArg (fun z => some (I z)) (by simp only [x1M]; simp_all <;> (try omega))) subT.nil))))))))))
      ·
        intro _
        refine h_seqK (ι := Unit) (fun _ => [(0, V (a.map encB) fa), (1, V (b.map encB) fb), (2, I way), (3, I fr), (4, I to), (12, V ((edgesM a b).map encI) fe), (13, .os ob 3 0 (outR a b way fr to (edgesM a b) i).length c), (14, I (i : Nat)), (16, I (holderR b ((edgesM a b).getD ((i : Nat) : Int).toNat 0))), (15, I (x2M way (holderR a ((edgesM a b).getD ((i : Nat) : Int).toNat 0)) (holderR b ((edgesM a b).getD ((i : Nat) : Int).toNat 0))))]) (fun _ => [(ob, .arr 66 3 ((outR a b way fr to (edgesM a b) i).map encB) c)]) ?_ ?_
        ·
          refine h_seq ?_
          refine h_region ?_
          refine o_move rfl (by decide) ?_
          refine o_cmp rfl rfl rfl (by decide) ?_
          refine o_move rfl (by decide) ?_
          refine o_guard rfl rfl (by decide) (fun g77 => ?_) (fun g77 => ?_)
          ·
            have g77 : _ = true := g77
            refine o_move rfl (by decide) ?_
            refine o_guardy rfl rfl g77 (by decide) ?_
            refine o_cmp rfl rfl rfl (by decide) ?_
            refine o_pickt rfl g77 rfl (by decide) ?_
            refine o_nil ?_
            refine h_cond rfl (fun c79 => ?_) (fun c79 => ?_)
            ·
              refine h_region ?_
              refine o_assign rfl (by decide) ?_
              refine o_nil ?_
              exact join rfl () (.refl _) (.cons_cons _ (List.nil_sublist _)) (subT.cons rfl (subT.cons rfl (subT.cons rfl (subT.cons rfl (subT.cons rfl (subT.cons rfl (subT.cons rfl (subT.cons rfl (subT.cons rfl (subT.cons (congrArg (fun z => some (I z)) (by simp only [x2M]; simp_all <;> (try omega))) subT.nil))))))))))
            ·
              refine h_skip ?_
              exact join rfl () (.refl _) (.cons_cons _ (List.nil_sublist _)) (subT.cons rfl (subT.cons rfl (subT.cons rfl (subT.cons rfl (subT.cons rfl (subT.cons rfl (subT.cons rfl (subT.cons rfl (subT.cons rfl (subT.cons (congrArg (fun z => some (I z)) (by simp only [x2M]; simp_all <;> (try omega))) subT.nil))))))))))
          ·
            have g77 : _ = false := g77
            refine o_guardn rfl rfl g77 (by decide) ?_
            refine o_pickf rfl g77 rfl (by decide) ?_
            refine o_nil ?_
            refine h_condf rfl rfl ?_
            refine h_skip ?_
            exact join rfl () (.refl _) (.cons_cons _ (List.nil_sublist _)) (subT.cons rfl (subT.cons rfl (subT.cons rfl (subT.cons rfl (subT.cons rfl (subT.cons rfl (subT.cons rfl (subT.cons rfl (subT.cons rfl (subT.cons (congrArg (fun z => some (I z)) (by simp only [x2M]; simp_all <;> (try omega))) subT.nil))))))))))
        ·
          intro _
          refine h_seqK (ι := Unit) (fun _ => [(0, V (a.map encB) fa), (1, V (b.map encB) fb), (2, I way), (3, I fr), (4, I to), (12, V ((edgesM a b).map encI) fe), (13, .os ob 3 0 (outR a b way fr to (edgesM a b) i).length c), (14, I (i : Nat)), (16, I (holderR b ((edgesM a b).getD ((i : Nat) : Int).toNat 0))), (15, I (x3M way fr to (holderR a ((edgesM a b).getD ((i : Nat) : Int).toNat 0)) (holderR b ((edgesM a b).getD ((i : Nat) : Int).toNat 0))))]) (fun _ => [(ob, .arr 66 3 ((outR a b way fr to (edgesM a b) i).map encB) c)]) ?_ ?_
          ·
            refine h_seq ?_
            refine h_region ?_
            refine o_move rfl (by decide) ?_
            refine o_cmp rfl rfl rfl (by decide) ?_
            refine o_move rfl (by decide) ?_
            refine o_guard rfl rfl (by decide) (fun g81 => ?_) (fun g81 => ?_)
            ·
              have g81 : _ = true := g81
              refine o_move rfl (by decide) ?_
              refine o_guardy rfl rfl g81 (by decide) ?_
              refine o_move rfl (by decide) ?_
              refine o_guardy rfl rfl g81 (by decide) ?_
              refine o_cmp rfl rfl rfl (by decide) ?_
              refine o_pickt rfl g81 rfl (by decide) ?_
              refine o_nil ?_
              refine h_cond rfl (fun c83 => ?_) (fun c83 => ?_)
              ·
                refine h_region ?_
                refine o_move rfl (by decide) ?_
                refine o_assign rfl (by decide) ?_
                refine o_nil ?_
                exact join rfl () (.refl _) (.cons_cons _ (List.nil_sublist _)) (subT.cons rfl (subT.cons rfl (subT.cons rfl (subT.cons rfl (subT.cons rfl (subT.cons rfl (subT.cons rfl (subT.cons rfl (subT.cons rfl (subT.cons (congrArg (fun z => some (I z)) (by simp only [x3M]; simp_all <;> (try omega))) subT.nil))))))))))
              ·
                refine h_skip ?_
                exact join rfl () (.refl _) (.cons_cons _ (List.nil_sublist _)) (subT.cons rfl (subT.cons rfl (subT.cons rfl (subT.cons rfl (subT.cons rfl (subT.cons rfl (subT.cons rfl (subT.cons rfl (subT.cons rfl (subT.cons (congrArg (fun z => some (I z)) (by simp only [x3M]; simp_all <;> (try omega))) subT.nil))))))))))
            ·
              have g81 : _ = false := g81
              refine o_guardn rfl rfl g81 (by decide) ?_
              refine o_guardn rfl rfl g81 (by decide) ?_
              refine o_pickf rfl g81 rfl (by decide) ?_
              refine o_nil ?_
              refine h_condf rfl rfl ?_
              refine h_skip ?_
              exact join rfl () (.refl _) (.cons_cons _ (List.nil_sublist _)) (subT.cons rfl (subT.cons rfl (subT.cons rfl (subT.cons rfl (subT.cons rfl (subT.cons rfl (subT.cons rfl (subT.cons rfl (subT.cons rfl (subT.cons (congrArg (fun z => some (I z)) (by simp only [x3M]; simp_all <;> (try omega))) subT.nil))))))))))
          ·
            intro _
            refine h_seq ?_
            refine h_seq ?_
            refine h_region ?_
            refine o_move rfl (by decide) ?_
            refine o_cmp rfl rfl rfl (by decide) ?_
            refine o_nil ?_
            refine h_cond rfl (fun c85 => ?_) (fun c85 => ?_)
            ·
              refine h_exit ?_
              refine h_region ?_
              refine o_move rfl (by decide) ?_
              refine o_add rfl rfl (by unfold in64; (try dsimp only); omega) (by decide) ?_
              refine o_assign rfl (by decide) ?_
              refine o_nil ?_
              have hx := c85
              simp only [decide_eq_true_eq, decide_eq_false_iff_not, Int.toNat_natCast] at hx
              have hs : (outR a b way fr to (edgesM a b)) (i + 1) = addR (outR a b way fr to (edgesM a b) i) ((edgesM a b).getD i 0) ((edgesM a b).getD (i + 1) 0) (xR a b way fr to ((edgesM a b).getD i 0)) := rfl
              have hq : (outR a b way fr to (edgesM a b)) (i + 1) = (outR a b way fr to (edgesM a b) i) := by rw [hs]; exact addR_neg hx
              refine back rfl (.inr ⟨i + 1, ob, c, _, _, by omega, by rw [hq], by rw [hq], by rw [hq]; exact hne, hc⟩) (by dsimp only; omega) (.cons_cons _ (.refl _)) (subT.cons rfl (subT.cons rfl (subT.cons rfl (subT.cons rfl (subT.cons rfl (subT.cons rfl (subT.cons rfl (subT.cons rfl subT.nil))))))))
            ·
              refine h_skip ?_
              refine h_seq ?_
              refine h_region ?_
              refine o_move rfl (by decide) ?_
              refine o_leno rfl (by decide) ?_
              refine o_assign rfl (by decide) ?_
              refine o_nil ?_
              refine h_seq ?_
              refine h_draw _ (List.nil_sublist _) [(0, .flo), (1, .flo), (2, .flo), (3, .flo), (4, .flo), (5, .flo), (6, .flo), (7, .flo), (8, .flo), (9, .flo), (10, .val), (11, .flo), (12, .flo), (13, .flo), (14, .val), (15, .flo), (16, .flo), (17, .flo), (18, .flo), (19, .flo), (20, .flo), (21, .flo), (22, .flo), (23, .flo), (24, .val), (25, .flo), (26, .flo), (27, .flo)] mixed (by kernel_rfl) ?_
              refine c_flo rfl rfl (fun Xq rq Qq dq kq => o_move rfl (by decide) kq) ?_
              refine c_flo rfl rfl (fun Xq rq Qq dq kq => o_cmp rfl rfl rfl (by decide) kq) ?_
              refine c_flo rfl rfl (fun Xq rq Qq dq kq => o_move rfl (by decide) kq) ?_
              refine c_flo rfl rfl (fun Xq rq Qq dq kq => o_guardy rfl rfl (by have := List.length_pos_iff.2 hne; simp; omega) (by decide) (o_move rfl (by decide) kq)) ?_
              refine c_flo rfl rfl (fun Xq rq Qq dq kq => o_guardy rfl rfl (by have := List.length_pos_iff.2 hne; simp; omega) (by decide) (o_move rfl (by decide) kq)) ?_
              refine c_flo rfl rfl (fun Xq rq Qq dq kq => o_guardy rfl rfl (by have := List.length_pos_iff.2 hne; simp; omega) (by decide) (o_sub rfl rfl (by unfold in64; (try dsimp only); omega) (by decide) kq)) ?_
              refine c_flo rfl rfl (fun Xq rq Qq dq kq => o_guardy rfl rfl (by have := List.length_pos_iff.2 hne; simp; omega) (by decide) (o_max rfl rfl (by decide) kq)) ?_
              refine c_flo rfl rfl (fun Xq rq Qq dq kq => o_guardy rfl rfl (by have := List.length_pos_iff.2 hne; simp; omega) (by decide) (o_idxo rfl rfl (by first | omega | (have := List.length_pos_iff.2 hne; omega)) (by have := List.length_pos_iff.2 hne; simp; omega) (by decide) kq)) ?_
              refine c_flo rfl rfl (fun Xq rq Qq dq kq => o_guardy rfl rfl (by have := List.length_pos_iff.2 hne; simp; omega) (by decide) (o_faddre rfl rfl (by decide) (by decide) kq)) ?_
              refine c_flo rfl rfl (fun Xq rq Qq dq kq => o_guardy rfl rfl (by have := List.length_pos_iff.2 hne; simp; omega) (by decide) (o_faddre rfl rfl (by decide) (by decide) kq)) ?_
              refine c_val rfl rfl (fun Xq rq Qq dq kq => o_guardy rfl rfl (by have := List.length_pos_iff.2 hne; simp; omega) (by decide) (o_loade 0 rfl rfl (lastM hne) rfl rfl (by decide) kq)) ?_
              refine c_flo rfl rfl (fun Xq rq Qq dq kq => o_guardy rfl rfl (by have := List.length_pos_iff.2 hne; simp; omega) (by decide) (o_move rfl (by decide) kq)) ?_
              refine c_flo rfl rfl (fun Xq rq Qq dq kq => o_guardy rfl rfl (by have := List.length_pos_iff.2 hne; simp; omega) (by decide) (o_move rfl (by decide) kq)) ?_
              refine c_flo rfl rfl (fun Xq rq Qq dq kq => o_guardy rfl rfl (by have := List.length_pos_iff.2 hne; simp; omega) (by decide) (o_idxv rfl rfl (by first | omega | (have := List.length_pos_iff.2 hne; omega)) (eltIn (by first | omega | (simp; omega))) rfl (by decide) kq)) ?_
              refine c_val rfl rfl (fun Xq rq Qq dq kq => o_guardy rfl rfl (by have := List.length_pos_iff.2 hne; simp; omega) (by decide) (o_loadv rfl rfl (by decide) kq)) ?_
              refine c_flo rfl rfl (fun Xq rq Qq dq kq => o_guardy rfl rfl (by have := List.length_pos_iff.2 hne; simp; omega) (by decide) (o_cmp rfl rfl rfl (by decide) kq)) ?_
              refine c_flo rfl rfl (fun Xq rq Qq dq kq => o_pickt rfl (by have := List.length_pos_iff.2 hne; simp; omega) rfl (by decide) kq) ?_
              refine c_flo rfl rfl (fun Xq rq Qq dq kq => o_move rfl (by decide) kq) ?_
              refine c_split (t := 98) rfl (fun g88 => ?_) (fun g88 => ?_)
              ·
                have g88 : _ = true := g88
                refine c_flo rfl rfl (fun Xq rq Qq dq kq => o_guardy rfl rfl g88 (by decide) (o_move rfl (by decide) kq)) ?_
                refine c_flo rfl rfl (fun Xq rq Qq dq kq => o_guardy rfl rfl g88 (by decide) (o_move rfl (by decide) kq)) ?_
                refine c_flo rfl rfl (fun Xq rq Qq dq kq => o_guardy rfl rfl g88 (by decide) (o_sub rfl rfl (by unfold in64; (try dsimp only); omega) (by decide) kq)) ?_
                refine c_flo rfl rfl (fun Xq rq Qq dq kq => o_guardy rfl rfl g88 (by decide) (o_max rfl rfl (by decide) kq)) ?_
                refine c_flo rfl rfl (fun Xq rq Qq dq kq => o_guardy rfl rfl g88 (by decide) (o_idxo rfl rfl (by first | omega | (have := List.length_pos_iff.2 hne; omega)) (by have := List.length_pos_iff.2 hne; simp; omega) (by decide) kq)) ?_
                refine c_flo rfl rfl (fun Xq rq Qq dq kq => o_guardy rfl rfl g88 (by decide) (o_faddre rfl rfl (by decide) (by decide) kq)) ?_
                refine c_val rfl rfl (fun Xq rq Qq dq kq => o_guardy rfl rfl g88 (by decide) (o_loade 0 rfl rfl (lastM hne) rfl rfl (by decide) kq)) ?_
                refine c_flo rfl rfl (fun Xq rq Qq dq kq => o_guardy rfl rfl g88 (by decide) (o_move rfl (by decide) kq)) ?_
                refine c_flo rfl rfl (fun Xq rq Qq dq kq => o_guardy rfl rfl g88 (by decide) (o_cmp rfl rfl rfl (by decide) kq)) ?_
                refine c_flo rfl rfl (fun Xq rq Qq dq kq => o_pickt rfl g88 rfl (by decide) kq) ?_
                refine c_nil ?_
                refine h_cond rfl (fun c90 => ?_) (fun c90 => ?_)
                ·
                  refine h_region ?_
                  refine o_move rfl (by decide) ?_
                  refine o_move rfl (by decide) ?_
                  refine o_sub rfl rfl (by unfold in64; (try dsimp only); omega) (by decide) ?_
                  refine o_move rfl (by decide) ?_
                  refine o_move rfl (by decide) ?_
                  refine o_add rfl rfl (by unfold in64; (try dsimp only); omega) (by decide) ?_
                  refine o_idxv rfl rfl (by first | omega | (have := List.length_pos_iff.2 hne; omega)) (eltIn (by first | omega | (simp; omega))) rfl (by decide) ?_
                  refine o_loadv rfl rfl (by decide) ?_
                  refine o_idxo rfl rfl (by first | omega | (have := List.length_pos_iff.2 hne; omega)) (by have := List.length_pos_iff.2 hne; simp; omega) (by decide) ?_
                  refine o_faddre rfl rfl (by decide) (by decide) ?_
                  refine o_faddre rfl rfl (by decide) (by decide) ?_
                  refine o_storee 0 rfl rfl (lastE hne) rfl rfl rfl rfl (by simp [encB]) ?_
                  refine o_nil ?_
                  refine h_region ?_
                  refine o_move rfl (by decide) ?_
                  refine o_add rfl rfl (by unfold in64; (try dsimp only); omega) (by decide) ?_
                  refine o_assign rfl (by decide) ?_
                  refine o_nil ?_
                  have hx := c85
                  simp only [decide_eq_true_eq, decide_eq_false_iff_not, Int.toNat_natCast] at hx
                  have hs : (outR a b way fr to (edgesM a b)) (i + 1) = addR (outR a b way fr to (edgesM a b) i) ((edgesM a b).getD i 0) ((edgesM a b).getD (i + 1) 0) (xR a b way fr to ((edgesM a b).getD i 0)) := rfl
                  have hd : ((outR a b way fr to (edgesM a b) i).getLast hne).t = (edgesM a b).getD i 0 ∧ ((outR a b way fr to (edgesM a b) i).getLast hne).c = (xR a b way fr to ((edgesM a b).getD i 0)) := by simp_all [xR]
                  have hq : (outR a b way fr to (edgesM a b)) (i + 1) = (outR a b way fr to (edgesM a b) i).dropLast ++ [⟨((outR a b way fr to (edgesM a b) i).getLast hne).f, (edgesM a b).getD (i + 1) 0, ((outR a b way fr to (edgesM a b) i).getLast hne).c⟩] := by rw [hs]; exact addR_long hx hne hd
                  refine back rfl (.inr ⟨i + 1, ob, c, _, _, by omega, (by rw [hq, ← succN']; exact set_last hne ⟨_, (edgesM a b).getD ((i : Int) + 1).toNat 0, _⟩), (by rw [hq]; simp; have := List.length_pos_iff.2 hne; omega), by rw [hq]; simp, hc⟩) (by dsimp only; omega) (.cons_cons _ (.refl _)) (subT.cons rfl (subT.cons rfl (subT.cons rfl (subT.cons rfl (subT.cons rfl (subT.cons rfl (subT.cons rfl (subT.cons rfl subT.nil))))))))
                ·
                  refine h_draw _ (List.nil_sublist _) [(0, .flo), (1, .flo), (2, .flo), (3, .flo), (4, .val), (5, .flo), (6, .flo), (7, .flo), (8, .flo), (9, .val), (10, .flo), (11, .flo), (12, .flo), (13, .flo), (14, .bar), (15, .bar)] mixed (by kernel_rfl) ?_
                  refine c_flo rfl rfl (fun Xq rq Qq dq kq => o_move rfl (by decide) kq) ?_
                  refine c_flo rfl rfl (fun Xq rq Qq dq kq => o_move rfl (by decide) kq) ?_
                  refine c_flo rfl rfl (fun Xq rq Qq dq kq => o_move rfl (by decide) kq) ?_
                  refine c_flo rfl rfl (fun Xq rq Qq dq kq => o_idxv rfl rfl (by first | omega | (have := List.length_pos_iff.2 hne; omega)) (eltIn (by first | omega | (simp; omega))) rfl (by decide) kq) ?_
                  refine c_val rfl rfl (fun Xq rq Qq dq kq => o_loadv rfl rfl (by decide) kq) ?_
                  refine c_flo rfl rfl (fun Xq rq Qq dq kq => o_move rfl (by decide) kq) ?_
                  refine c_flo rfl rfl (fun Xq rq Qq dq kq => o_move rfl (by decide) kq) ?_
                  refine c_flo rfl rfl (fun Xq rq Qq dq kq => o_add rfl rfl (by unfold in64; (try dsimp only); omega) (by decide) kq) ?_
                  refine c_flo rfl rfl (fun Xq rq Qq dq kq => o_idxv rfl rfl (by first | omega | (have := List.length_pos_iff.2 hne; omega)) (eltIn (by first | omega | (simp; omega))) rfl (by decide) kq) ?_
                  refine c_val rfl rfl (fun Xq rq Qq dq kq => o_loadv rfl rfl (by decide) kq) ?_
                  refine c_flo rfl rfl (fun Xq rq Qq dq kq => o_build rfl rfl (by decide) kq) ?_
                  refine c_flo rfl rfl (fun Xq rq Qq dq kq => o_move rfl (by decide) kq) ?_
                  refine c_flo rfl rfl (fun Xq rq Qq dq kq => o_build rfl rfl (by decide) kq) ?_
                  refine c_flo rfl rfl (fun Xq rq Qq dq kq => o_buildSlicep rfl (by rfl) (by rfl) (by rfl) (by rfl) (by decide) kq) ?_
                  refine c_bar ?_
                  refine o_append 0 rfl rfl rfl (Src.v _ _) (okB_one rfl) (by simp) (by simp [chunk_length]; try omega) (by decide) fun x91 c92 hc93 => ?_
                  refine o_assign rfl (by decide) ?_
                  refine o_nil ?_
                  refine h_region ?_
                  refine o_move rfl (by decide) ?_
                  refine o_add rfl rfl (by unfold in64; (try dsimp only); omega) (by decide) ?_
                  refine o_assign rfl (by decide) ?_
                  refine o_nil ?_
                  have hx := c85
                  simp only [decide_eq_true_eq, decide_eq_false_iff_not, Int.toNat_natCast] at hx
                  have hs : (outR a b way fr to (edgesM a b)) (i + 1) = addR (outR a b way fr to (edgesM a b) i) ((edgesM a b).getD i 0) ((edgesM a b).getD (i + 1) 0) (xR a b way fr to ((edgesM a b).getD i 0)) := rfl
                  have hd : ¬ (((outR a b way fr to (edgesM a b) i).getLast hne).t = (edgesM a b).getD i 0 ∧ ((outR a b way fr to (edgesM a b) i).getLast hne).c = (xR a b way fr to ((edgesM a b).getD i 0))) := by simp_all [xR]
                  have hq : (outR a b way fr to (edgesM a b)) (i + 1) = (outR a b way fr to (edgesM a b) i) ++ [⟨(edgesM a b).getD i 0, (edgesM a b).getD (i + 1) 0, (xR a b way fr to ((edgesM a b).getD i 0))⟩] := by rw [hs]; exact addR_more hx hne hd
                  refine back rfl (.inr ⟨i + 1, x91, c92, _, _, by omega, (by rw [hq, ← succN', List.map_append]; rfl), (by rw [hq]; simp [chunk_length]), by rw [hq]; simp, (by simpa [chunk_length] using hc93)⟩) (by dsimp only; omega) (.cons_cons _ (.refl _)) (subT.cons rfl (subT.cons rfl (subT.cons rfl (subT.cons rfl (subT.cons rfl (subT.cons rfl (subT.cons rfl (subT.cons rfl subT.nil))))))))
              ·
                have g88 : _ = false := g88
                refine c_flo rfl rfl (fun Xq rq Qq dq kq => o_guardn rfl rfl g88 (by decide) kq) ?_
                refine c_flo rfl rfl (fun Xq rq Qq dq kq => o_guardn rfl rfl g88 (by decide) kq) ?_
                refine c_flo rfl rfl (fun Xq rq Qq dq kq => o_guardn rfl rfl g88 (by decide) kq) ?_
                refine c_flo rfl rfl (fun Xq rq Qq dq kq => o_guardn rfl rfl g88 (by decide) kq) ?_
                refine c_flo rfl rfl (fun Xq rq Qq dq kq => o_guardn rfl rfl g88 (by decide) kq) ?_
                refine c_flo rfl rfl (fun Xq rq Qq dq kq => o_guardn rfl rfl g88 (by decide) kq) ?_
                refine c_val rfl rfl (fun Xq rq Qq dq kq => o_guardn rfl rfl g88 (by decide) kq) ?_
                refine c_flo rfl rfl (fun Xq rq Qq dq kq => o_guardn rfl rfl g88 (by decide) kq) ?_
                refine c_flo rfl rfl (fun Xq rq Qq dq kq => o_guardn rfl rfl g88 (by decide) kq) ?_
                refine c_flo rfl rfl (fun Xq rq Qq dq kq => o_pickf rfl g88 rfl (by decide) kq) ?_
                refine c_nil ?_
                refine h_condf rfl rfl ?_
                refine h_draw _ (List.nil_sublist _) [(0, .flo), (1, .flo), (2, .flo), (3, .flo), (4, .val), (5, .flo), (6, .flo), (7, .flo), (8, .flo), (9, .val), (10, .flo), (11, .flo), (12, .flo), (13, .flo), (14, .bar), (15, .bar)] mixed (by kernel_rfl) ?_
                refine c_flo rfl rfl (fun Xq rq Qq dq kq => o_move rfl (by decide) kq) ?_
                refine c_flo rfl rfl (fun Xq rq Qq dq kq => o_move rfl (by decide) kq) ?_
                refine c_flo rfl rfl (fun Xq rq Qq dq kq => o_move rfl (by decide) kq) ?_
                refine c_flo rfl rfl (fun Xq rq Qq dq kq => o_idxv rfl rfl (by first | omega | (have := List.length_pos_iff.2 hne; omega)) (eltIn (by first | omega | (simp; omega))) rfl (by decide) kq) ?_
                refine c_val rfl rfl (fun Xq rq Qq dq kq => o_loadv rfl rfl (by decide) kq) ?_
                refine c_flo rfl rfl (fun Xq rq Qq dq kq => o_move rfl (by decide) kq) ?_
                refine c_flo rfl rfl (fun Xq rq Qq dq kq => o_move rfl (by decide) kq) ?_
                refine c_flo rfl rfl (fun Xq rq Qq dq kq => o_add rfl rfl (by unfold in64; (try dsimp only); omega) (by decide) kq) ?_
                refine c_flo rfl rfl (fun Xq rq Qq dq kq => o_idxv rfl rfl (by first | omega | (have := List.length_pos_iff.2 hne; omega)) (eltIn (by first | omega | (simp; omega))) rfl (by decide) kq) ?_
                refine c_val rfl rfl (fun Xq rq Qq dq kq => o_loadv rfl rfl (by decide) kq) ?_
                refine c_flo rfl rfl (fun Xq rq Qq dq kq => o_build rfl rfl (by decide) kq) ?_
                refine c_flo rfl rfl (fun Xq rq Qq dq kq => o_move rfl (by decide) kq) ?_
                refine c_flo rfl rfl (fun Xq rq Qq dq kq => o_build rfl rfl (by decide) kq) ?_
                refine c_flo rfl rfl (fun Xq rq Qq dq kq => o_buildSlicep rfl (by rfl) (by rfl) (by rfl) (by rfl) (by decide) kq) ?_
                refine c_bar ?_
                refine o_append 0 rfl rfl rfl (Src.v _ _) (okB_one rfl) (by simp) (by simp [chunk_length]; try omega) (by decide) fun x94 c95 hc96 => ?_
                refine o_assign rfl (by decide) ?_
                refine o_nil ?_
                refine h_region ?_
                refine o_move rfl (by decide) ?_
                refine o_add rfl rfl (by unfold in64; (try dsimp only); omega) (by decide) ?_
                refine o_assign rfl (by decide) ?_
                refine o_nil ?_
                have hx := c85
                simp only [decide_eq_true_eq, decide_eq_false_iff_not, Int.toNat_natCast] at hx
                have hs : (outR a b way fr to (edgesM a b)) (i + 1) = addR (outR a b way fr to (edgesM a b) i) ((edgesM a b).getD i 0) ((edgesM a b).getD (i + 1) 0) (xR a b way fr to ((edgesM a b).getD i 0)) := rfl
                have hd : ¬ (((outR a b way fr to (edgesM a b) i).getLast hne).t = (edgesM a b).getD i 0 ∧ ((outR a b way fr to (edgesM a b) i).getLast hne).c = (xR a b way fr to ((edgesM a b).getD i 0))) := by simp_all [xR]
                have hq : (outR a b way fr to (edgesM a b)) (i + 1) = (outR a b way fr to (edgesM a b) i) ++ [⟨(edgesM a b).getD i 0, (edgesM a b).getD (i + 1) 0, (xR a b way fr to ((edgesM a b).getD i 0))⟩] := by rw [hs]; exact addR_more hx hne hd
                refine back rfl (.inr ⟨i + 1, x94, c95, _, _, by omega, (by rw [hq, ← succN', List.map_append]; rfl), (by rw [hq]; simp [chunk_length]), by rw [hq]; simp, (by simpa [chunk_length] using hc96)⟩) (by dsimp only; omega) (.cons_cons _ (.refl _)) (subT.cons rfl (subT.cons rfl (subT.cons rfl (subT.cons rfl (subT.cons rfl (subT.cons rfl (subT.cons rfl (subT.cons rfl subT.nil))))))))
    ·
      have hol := outR_len a b way fr to (edgesM a b) i
      have hie : i = (edgesM a b).length - 1 := by omega
      refine h_seq ?_
      refine h_seq ?_
      refine h_region ?_
      refine o_move rfl (by decide) ?_
      refine o_add rfl rfl (by unfold in64; (try dsimp only); omega) (by decide) ?_
      refine o_move rfl (by decide) ?_
      refine o_len rfl (by decide) ?_
      refine o_cmp rfl rfl rfl (by decide) ?_
      refine o_nil ?_
      refine h_condf rfl (by simp; omega) ?_
      refine h_exit ?_
      refine h_seq ?_
      refine h_seq ?_
      refine h_region ?_
      refine o_move rfl (by decide) ?_
      refine o_callL 0 rfl rfl rfl EntC.out (by decide) (.cons (.os _ _ (by simp) hc) .nil) (rvalid_spec (outR a b way fr to (edgesM a b) i) (by omega) false) ?_
      refine o_not rfl (by decide) ?_
      refine o_nil ?_
      refine h_cond rfl (fun c99 => ?_) (fun c99 => ?_)
      ·
        refine h_seq ?_
        refine h_region ?_
        refine o_assign rfl (by decide) ?_
        refine o_assign rfl (by decide) ?_
        refine o_nil ?_
        refine h_ret ?_
        have hq : combR a b way fr to = ([], 130) := by unfold combR; rw [← hie]; rw [if_neg (by simp_all)]
        exact retG [] (.cons (resT rfl) (.cons (resT rfl) .nil)) (List.nil_sublist _) ⟨_, rfl, by rw [hq]; rfl, rfl⟩
      ·
        refine h_skip ?_
        refine h_seq ?_
        refine h_region ?_
        refine o_move rfl (by decide) ?_
        refine o_assign rfl (by decide) ?_
        refine o_assign rfl (by decide) ?_
        refine o_nil ?_
        refine h_ret ?_
        have hq : combR a b way fr to = ((outR a b way fr to (edgesM a b) i), 0) := by unfold combR; rw [← hie]; rw [if_pos (by simp_all)]
        exact retF (.cons (resT rfl) (.cons (resT rfl) .nil)) (frz_tup2 (frz_os List.mem_cons_self (by simp) hc) (.refl _)) ⟨_, rfl, by rw [hq]; simp only [encR, List.isEmpty_eq_false_iff.2 hne]; rfl, rfl⟩

end Go.Proofs.Ytbnonekkjjcdgaa
