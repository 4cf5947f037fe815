/- Debts and balances behind events. -/
import Derived.Test.YtnoicbajhlpndaaGreatSuccA
namespace Go.Proofs.YtnoicbajhlpndaaGreat
open Go Go.RowKit Go.Shelf Hp
set_option maxRecDepth 10000
set_option maxHeartbeats 1000000
set_option linter.unusedVariables false
set_option linter.unusedSimpArgs false
attribute [local irreducible] WP WPs FnX IterX YdX RetP PanP Ch Back Join
/-- What debts make of a carrier's balance. -/
def netJ : List Dbt → Int → Int
  | [], _ => 0
  | d :: l, j => netJ l j + (if d.to = j then d.m else 0) - (if d.fr = j then d.m else 0)
theorem netJ_append (j : Int) : ∀ a b : List Dbt, netJ (a ++ b) j = netJ a j + netJ b j
  | [], b => by simp [netJ]
  | d :: a, b => by simp only [List.cons_append, netJ, netJ_append j a b]; omega
theorem netJ_keep (j : Int) : ∀ l : List Dbt, netJ (l.filter keepD) j = netJ l j
  | [] => rfl
  | d :: l => by
    have ih := netJ_keep j l
    rw [List.filter_cons]
    by_cases h : d.fr = d.to
    · rw [if_neg (by simp [keepD, h])]
      simp only [netJ, ih, h]; omega
    · rw [if_pos (by simp [keepD, h])]
      simp only [netJ, ih]
theorem netJ_ren {a b : Int} (hab : a ≠ b) (j : Int) : ∀ l : List Dbt, netJ (l.map (renD a b)) j = if j = a then 0 else if j = b then netJ l b + netJ l a else netJ l j
  | [] => by simp [netJ]
  | d :: l => by
    have ih := netJ_ren hab j l
    simp only [List.map_cons, netJ, ih, renD]
    by_cases h1 : j = a
    · subst h1
      simp only [if_true]
      by_cases h2 : d.fr = j <;> by_cases h3 : d.to = j <;> simp [h2, h3, Ne.symm hab]
    · by_cases h4 : j = b
      · subst h4
        simp only [h1, if_false, if_true]
        by_cases h2 : d.fr = a <;> by_cases h3 : d.to = a <;> simp [h2, h3, hab] <;> omega
      · simp only [h1, h4, if_false]
        have e1 : ∀ x : Int, ((if x = a then b else x) = j) = (x = j) := fun x => by
          by_cases hx : x = a
          · subst hx; simp [Ne.symm h1, Ne.symm h4]
          · simp [hx]
        simp only [e1]
/-- Debts that may stand in a list: between different carriers, of an amount. -/
def okD (d : Dbt) : Prop := (0 ≤ d.fr ∧ d.fr ≤ 7) ∧ (0 ≤ d.to ∧ d.to ≤ 7) ∧ d.fr ≠ d.to ∧ 1 ≤ d.m ∧ d.m ≤ 1000
theorem owed_ok {l : List Dbt} {a b m : Int} (h : ∀ d ∈ l, okD d) (ha : 0 ≤ a ∧ a ≤ 7) (hb : 0 ≤ b ∧ b ≤ 7) (hab : a ≠ b) (hm : -200 ≤ m ∧ m ≤ 200) : ∀ d ∈ owedM l a b m, okD d := by
  unfold owedM
  split
  · intro d hd
    rcases List.mem_append.1 hd with h1 | h1
    · exact h d h1
    · simp at h1; subst h1; exact ⟨ha, hb, hab, by dsimp only; omega⟩
  · split
    · intro d hd
      rcases List.mem_append.1 hd with h1 | h1
      · exact h d h1
      · simp at h1; subst h1; exact ⟨hb, ha, Ne.symm hab, by dsimp only; omega⟩
    · exact h
theorem ren_ok {l : List Dbt} {a b : Int} (h : ∀ d ∈ l, okD d) (hb : 0 ≤ b ∧ b ≤ 7) : ∀ d ∈ renamedM l a b, okD d := by
  intro d hd
  obtain ⟨h1, h2⟩ := List.mem_filter.1 hd
  obtain ⟨d0, h3, rfl⟩ := List.mem_map.1 h1
  obtain ⟨q1, q2, q3, q4⟩ := h d0 h3
  refine ⟨?_, ?_, ?_, q4⟩
  · simp only [renD]; split <;> assumption
  · simp only [renD]; split <;> assumption
  · intro he; simp [keepD, he] at h2
theorem owed_net {l : List Dbt} {a b m j : Int} (hab : a ≠ b) : netJ (owedM l a b m) j = netJ l j + (if b = j then m else 0) - (if a = j then m else 0) := by
  unfold owedM
  split
  · rw [netJ_append]; simp only [netJ]; omega
  · split
    · rw [netJ_append]; simp only [netJ]; (repeat' split) <;> omega
    · have : m = 0 := by omega
      subst this; simp
theorem ren_net {l : List Dbt} {a b j : Int} (hab : a ≠ b) : netJ (renamedM l a b) j = if j = a then 0 else if j = b then netJ l b + netJ l a else netJ l j := by
  unfold renamedM; rw [netJ_keep, netJ_ren hab]
/-- The balances are those of the debts. -/
def Owes (w : Wd) (ds : List Dbt) : Prop := ∀ j : Int, 0 ≤ j → j ≤ 7 → w.bal.getD j.toNat 0 = netJ ds j
theorem step_kinds {w : Wd} {e : Ev} (hv : VParts w) (h : (stepM w e).2 = 0) : (e.kind = 1 → e.a ≠ e.b) ∧ (e.kind = 2 → e.a ≠ e.b ∧ w.bal.getD e.b.toNat 0 = 0) ∧ (e.kind = 3 → e.a ≠ e.b ∧ e.a ≠ e.c) := by
  obtain ⟨ho, hd, hv'⟩ := step_facts hv h
  obtain ⟨hk4, ht, hA, hB, hC, hal⟩ := okE_iff.1 ho
  obtain ⟨a0, a1⟩ := alive_range hv
  obtain ⟨e0, e1⟩ := ever_rng hv
  refine ⟨fun k => ?_, fun k => ?_, fun k => ?_⟩
  · rw [doW1 k] at hd; unfold mergeW at hd
    split at hd
    · cases hd
    · rename_i hc; simp only [Bool.not_eq_false, Bool.and_eq_true, decide_eq_true_eq] at hc; exact hc.2
  · have hn := step_new hv h k
    have hdead : bitM w.alive e.b = false := by
      cases hb : bitM w.alive e.b with
      | false => rfl
      | true => have := alive_is_ever hv hB.1 hB.2 hb; rw [← has_bit e0 e1 hB.1 hB.2, hn] at this; cases this
    refine ⟨fun hab => ?_, (lev_dead hv hB.1 hB.2 hdead).2⟩
    rw [has_bit a0 a1 hA.1 hA.2, hab, hdead] at hal; cases hal
  · rw [doW3 k] at hd; unfold windW at hd
    split at hd
    · cases hd
    · rename_i hc; simp only [Bool.not_eq_false, Bool.and_eq_true, decide_eq_true_eq] at hc; exact ⟨hc.1.2, hc.2⟩
theorem step_money {w : Wd} {e : Ev} {ds : List Dbt} (hv : VParts w) (h : (stepM w e).2 = 0) (hm : -200 ≤ e.m ∧ e.m ≤ 200) (ho : Owes w ds) (hd : ∀ d ∈ ds, okD d) : Owes (stepM w e).1 (debtE ds e) ∧ ∀ d ∈ debtE ds e, okD d := by
  obtain ⟨hok, _, hv'⟩ := step_facts hv h
  obtain ⟨hk4, ht, hA, hB, hC, hal⟩ := okE_iff.1 hok
  obtain ⟨k1, k2, k3⟩ := step_kinds hv h
  have hlb := hv.lb
  have oA := ho e.a hA.1 hA.2
  have oB := ho e.b hB.1 hB.2
  have oC := ho e.c hC.1 hC.2
  by_cases hk : e.kind = 4
  · have hde : debtE ds e = ds := by unfold debtE; rw [if_neg (by omega), if_neg (by omega), if_neg (by omega)]
    rw [hde]
    exact ⟨fun j j0 j1 => by rw [step_up hv h hk]; exact ho j j0 j1, hd⟩
  · have he := step_eff' hv h hk
    have hk3 : e.kind = 1 ∨ e.kind = 2 ∨ e.kind = 3 := by omega
    rcases hk3 with k | k | k
    · have hab := k1 k
      have hde : debtE ds e = renamedM ds e.a e.b := by unfold debtE; rw [if_pos k]
      rw [hde]
      refine ⟨fun j j0 j1 => ?_, ren_ok hd hB⟩
      have oj := ho j j0 j1
      rw [he.bal, ren_net hab]
      simp only [balE, k, if_true, getD_set, List.length_set, hlb]
      by_cases h1 : j = e.a
      · rw [if_pos (by omega), if_pos h1]
      · rw [if_neg (by omega), if_neg h1]
        by_cases h2 : j = e.b
        · rw [if_pos (by omega), if_pos h2]; omega
        · rw [if_neg (by omega), if_neg h2]; exact oj
    · obtain ⟨hab, hb0⟩ := k2 k
      have hde : debtE ds e = owedM ds e.a e.b e.m := by unfold debtE; rw [if_neg (by omega), if_pos k]
      rw [hde]
      refine ⟨fun j j0 j1 => ?_, owed_ok hd hA hB hab hm⟩
      have oj := ho j j0 j1
      rw [he.bal, owed_net hab]
      have hb2 : balE e w.bal = (w.bal.set e.a.toNat (w.bal.getD e.a.toNat 0 - e.m)).set e.b.toNat e.m := by unfold balE; rw [if_neg (by omega), if_pos k]
      rw [hb2, getD_set, getD_set]
      simp only [List.length_set, hlb]
      by_cases h1 : e.b = j
      · rw [if_pos (by omega), if_pos h1, if_neg (by omega), ← oj, ← h1, hb0]; omega
      · rw [if_neg (by omega), if_neg h1]
        by_cases h2 : e.a = j
        · rw [if_pos (by omega), if_pos h2, ← oj, ← h2]; omega
        · rw [if_neg (by omega), if_neg h2, oj]; omega
    · obtain ⟨hab, hac⟩ := k3 k
      have hde : debtE ds e = renamedM (owedM ds e.a e.b e.m) e.a e.c := by unfold debtE; rw [if_neg (by omega), if_neg (by omega), if_pos k]
      rw [hde]
      refine ⟨fun j j0 j1 => ?_, ren_ok (owed_ok hd hA hB hab hm) hC⟩
      have oj := ho j j0 j1
      rw [he.bal, ren_net hac, owed_net hab, owed_net hab, owed_net hab]
      have hb' : ∀ i : Nat, (w.bal.set e.b.toNat (w.bal.getD e.b.toNat 0 + e.m)).getD i 0 = if e.b.toNat = i then w.bal.getD e.b.toNat 0 + e.m else w.bal.getD i 0 := fun i => by
        rw [getD_set, hlb]
        by_cases hi : e.b.toNat = i
        · rw [if_pos (by omega), if_pos hi]
        · rw [if_neg (by omega), if_neg hi]
      have hb2 : balE e w.bal = ((w.bal.set e.b.toNat (w.bal.getD e.b.toNat 0 + e.m)).set e.c.toNat ((w.bal.set e.b.toNat (w.bal.getD e.b.toNat 0 + e.m)).getD e.c.toNat 0 + ((w.bal.set e.b.toNat (w.bal.getD e.b.toNat 0 + e.m)).getD e.a.toNat 0 - e.m))).set e.a.toNat 0 := by unfold balE; rw [if_neg (by omega), if_neg (by omega)]
      obtain ⟨Y, hY⟩ : ∃ Y, Y = w.bal.set e.b.toNat (w.bal.getD e.b.toNat 0 + e.m) := ⟨_, rfl⟩
      rw [← hY] at hb' hb2
      have hYl : Y.length = 8 := by rw [hY, List.length_set]; exact hlb
      obtain ⟨V, hV⟩ : ∃ V, V = Y.getD e.c.toNat 0 + (Y.getD e.a.toNat 0 - e.m) := ⟨_, rfl⟩
      rw [← hV] at hb2
      rw [hb', hb'] at hV
      rw [if_neg (show ¬ e.b.toNat = e.a.toNat by omega)] at hV
      rw [hb2, getD_set, getD_set, hb']
      simp only [List.length_set, hYl]
      by_cases h1 : j = e.a
      · rw [if_pos (by omega), if_pos h1]
      · rw [if_neg (by omega), if_neg h1]
        by_cases h2 : j = e.c
        · subst h2
          rw [if_pos (by omega), if_pos rfl, hV]
          simp only [show ¬ e.a = e.c from hac, show ¬ e.b = e.a by omega, if_false, if_true]
          by_cases h3 : e.b = e.c
          · rw [if_pos (by omega), if_pos h3, h3]; rw [h3] at oB; omega
          · rw [if_neg (by omega), if_neg h3]; omega
        · rw [if_neg (by omega), if_neg h2, if_neg (show ¬ e.a = j by omega)]
          by_cases h3 : e.b = j
          · rw [if_pos (by omega), if_pos h3, ← oj, ← h3]; omega
          · rw [if_neg (by omega), if_neg h3, oj]; omega
theorem money_law : ∀ {l : List Ev} {w : Wd} {t : Int} {ds : List Dbt}, VParts w → PossL w t l → Owes w ds → (∀ d ∈ ds, okD d) → Owes (worldA w l) (l.foldl debtE ds) ∧ ∀ d ∈ l.foldl debtE ds, okD d
  | [], _, _, _, _, _, h1, h2 => ⟨h1, h2⟩
  | e :: l, w, t, ds, hv, ⟨g1, g2, g3⟩, h1, h2 => by
    obtain ⟨m1, m2⟩ := step_money hv g2 ⟨g1.m0, g1.m9⟩ h1 h2
    exact money_law (l := l) (step_valid g2) g3 m1 m2
theorem debts_len : ∀ (l : List Ev) (ds : List Dbt), (l.foldl debtE ds).length ≤ ds.length + l.length
  | [], _ => Nat.le_refl _
  | e :: l, ds => by
    have h1 := debts_len l (debtE ds e)
    have h2 := debtE_len ds e
    simp only [List.foldl_cons, List.length_cons]; omega
/-! ### balances of debts -/
def nbStep (b : List Int) (d : Dbt) : List Int := (b.set d.fr.toNat (b.getD d.fr.toNat 0 - d.m)).set d.to.toNat ((b.set d.fr.toNat (b.getD d.fr.toNat 0 - d.m)).getD d.to.toNat 0 + d.m)
def nbal (ds : List Dbt) : List Int := ds.foldl nbStep (List.replicate 8 0)
theorem nb_len : ∀ (ds : List Dbt) (b : List Int), (ds.foldl nbStep b).length = b.length
  | [], _ => rfl
  | d :: ds, b => by rw [List.foldl_cons, nb_len ds]; simp [nbStep]
theorem nb_get : ∀ {ds : List Dbt} {b : List Int}, (∀ d ∈ ds, okD d) → b.length = 8 → ∀ j : Int, 0 ≤ j → j ≤ 7 → (ds.foldl nbStep b).getD j.toNat 0 = b.getD j.toNat 0 + netJ ds j
  | [], b, _, _, j, _, _ => by simp [netJ]
  | d :: ds, b, h, hb, j, j0, j1 => by
    obtain ⟨q1, q2, q3, q4⟩ := h d List.mem_cons_self
    rw [List.foldl_cons, nb_get (fun x hx => h x (List.mem_cons_of_mem _ hx)) (by simp [nbStep, hb]) j j0 j1]
    simp only [nbStep, netJ, getD_set, List.length_set, hb]
    by_cases h1 : d.to = j
    · rw [if_pos (by omega), if_neg (by omega), if_pos h1, if_neg (by omega), ← h1]; omega
    · rw [if_neg (by omega), if_neg h1]
      by_cases h2 : d.fr = j
      · rw [if_pos (by omega), if_pos h2, ← h2]; omega
      · rw [if_neg (by omega), if_neg h2]; omega
theorem nbal_eq {ds : List Dbt} {w : Wd} (hb : w.bal.length = 8) (h : ∀ d ∈ ds, okD d) (ho : Owes w ds) : nbal ds = w.bal := by
  have hl : (nbal ds).length = 8 := by simp only [nbal, nb_len, List.length_replicate]
  refine ext_getD (d := 0) (by omega) fun k hk => ?_
  have h1 := nb_get (b := List.replicate 8 0) h (by simp) (k : Int) (by omega) (by omega)
  have h2 := ho (k : Int) (by omega) (by omega)
  simp only [Int.toNat_natCast] at h1 h2
  rw [h2]
  have h3 : (List.replicate 8 (0 : Int)).getD k 0 = 0 := by rw [List.getD_eq_getElem?_getD, List.getElem?_replicate]; split <;> rfl
  rw [h3] at h1
  show (ds.foldl nbStep (List.replicate 8 0)).getD k 0 = _
  omega
theorem made_owes {al : Int} : ∀ {ds : List Dbt} {b : List Int}, (∀ d ∈ ds, goodD d) → (∀ d ∈ ds, linkD al d) → ds.foldl (balStep al) b = ds.foldl nbStep b
  | [], _, _, _ => rfl
  | d :: ds, b, hg, hl => by
    obtain ⟨g1, g2, g3⟩ := hg d List.mem_cons_self
    obtain ⟨l1, l2, l3⟩ := hl d List.mem_cons_self
    rw [List.foldl_cons, List.foldl_cons, made_owes (fun x hx => hg x (List.mem_cons_of_mem _ hx)) (fun x hx => hl x (List.mem_cons_of_mem _ hx))]
    congr 1
    unfold balStep nbStep
    rw [if_pos (by simp [inR, l2, l3]; omega)]
theorem okD_of {al : Int} {d : Dbt} (h1 : goodD d) (h2 : linkD al d) : okD d := ⟨h1.1, h1.2.1, h2.1, h1.2.2⟩
theorem madeW_owes {a0 a1 a2 : Int} {x : List T3} {ds : List Dbt} (hg : ∀ d ∈ ds, goodD d) (hl : ∀ d ∈ ds, linkD (1 + pickM a0 255) d) : Owes (madeW a0 a1 x a2 ds) ds := fun j j0 j1 => by
  have e : (madeW a0 a1 x a2 ds).bal = nbal ds := by
    simp only [madeW, balTo42, List.take_length, nbal]; exact made_owes hg hl
  rw [e]
  have h1 := nb_get (ds := ds) (b := List.replicate 8 0) (fun d hd => okD_of (hg d hd) (hl d hd)) (by simp) j j0 j1
  have h3 : (List.replicate 8 (0 : Int)).getD j.toNat 0 = 0 := by rw [List.getD_eq_getElem?_getD, List.getElem?_replicate]; split <;> rfl
  rw [h3] at h1
  show (ds.foldl nbStep (List.replicate 8 0)).getD j.toNat 0 = _
  omega
end Go.Proofs.YtnoicbajhlpndaaGreat
/- The walks of package netting's Valid and Balances. -/
namespace Go.Proofs.YtnoicbajhlpndaaGreat
open Go Go.RowKit Go.Shelf Hp
set_option maxRecDepth 10000
set_option maxHeartbeats 1000000
set_option linter.unusedVariables false
set_option linter.unusedSimpArgs false
attribute [local irreducible] WP WPs FnX IterX YdX RetP PanP Ch Back Join
def nbadD (lim : Int) (d : Dbt) : Bool := !inM d.fr 0 7 || !inM d.to 0 7 || decide (d.fr = d.to) || !inM d.m 1 lim
def nvalid (ds : List Dbt) : Bool := decide ((ds.length : Int) ≤ 60) && !(List.range ds.length).any fun k => nbadD 1000000000 (ds.getD k dD)
theorem nvalid_of {ds : List Dbt} (h : ∀ d ∈ ds, okD d) (hl : ds.length ≤ 60) : nvalid ds = true := by
  unfold nvalid
  rw [any_no fun k hk => ?_]
  · simp; omega
  · obtain ⟨q1, q2, q3, q4⟩ := h (ds.getD k dD) (by rw [List.getD_eq_getElem?_getD, List.getElem?_eq_getElem hk]; exact List.getElem_mem hk)
    simp only [nbadD, inM, Bool.or_eq_false_iff, Bool.not_eq_false', Bool.and_eq_true, decide_eq_true_eq, decide_eq_false_iff_not]; omega

theorem nisIn_spec (n low high : Int) : Fn1 Tryz.prog 135 [I n, I low, I high] (B (inM n low high)) := by
 refine fnE_intro (N := 15) Tryz.func135 rfl rfl rfl ?_
 intro X
 refine h_seq <| h_region <| o_assign rfl dQ <| o_nil <| h_seq <| h_region <| o_move rfl dQ <| o_move rfl dQ <| o_cmp rfl rfl rfl dQ <| o_move rfl dQ <| o_guard rfl rfl dQ (fun g2 => ?_) (fun g2 => ?_)
 ·
  have g2 : _ = true := g2
  exact o_move rfl dQ <| o_guardy rfl rfl g2 dQ <| o_move rfl dQ <| o_guardy rfl rfl g2 dQ <| o_cmp rfl rfl rfl dQ <| o_pickt rfl g2 rfl dQ <| o_assign rfl dQ <| o_nil <| h_ret <| ret1' rfl (B_eq (by unfold inM; first | (simp_all; done) | (simp_all <;> omega) | (simp_all; intro; omega)))
 ·
  have g2 : _ = false := g2
  exact o_guardn rfl rfl g2 dQ <| o_guardn rfl rfl g2 dQ <| o_pickf rfl g2 rfl dQ <| o_assign rfl dQ <| o_nil <| h_ret <| ret1' rfl (B_eq (by unfold inM; first | (simp_all; done) | (simp_all <;> omega) | (simp_all; intro; omega)))

theorem are1_spec (lim : Int) (d : Dbt) (e : Nat) : Fc Tryz.prog 134 [.agg [I d.fr, I d.to, I d.m], .ptr e 0] [(e, .box 3 [I lim])] (fun r h' => r = B (nbadD lim d) ∧ h' = [(e, .box 3 [I lim])]) := by
 refine fnE_intro (N := 28) Tryz.func134 rfl rfl rfl ?_
 intro X
 refine h_seq <| h_region <| o_box rfl rfl dQ fun x4 => o_assign rfl dQ <| o_nil <| h_seq <| h_region <| o_faddr rfl rfl dQ dQ <| o_load 0 rfl rfl rfl rfl dQ <| o_call1 rfl rfl EntC.out dQ (nisIn_spec _ _ _) <| o_not rfl dQ <| o_move rfl dQ ?_
 refine o_guard rfl rfl dQ (fun g6 => ?_) (fun g6 => ?_)
 ·
  have g6 : _ = false := g6
  refine o_faddr rfl rfl dQ dQ <| o_guardy rfl rfl g6 dQ <| o_load 0 rfl rfl rfl rfl dQ <| o_guardy rfl rfl g6 dQ <| o_call1 rfl rfl EntC.out dQ (nisIn_spec _ _ _) <| o_guardy rfl rfl g6 dQ <| o_not rfl dQ <| o_pickf rfl g6 rfl dQ <| o_move rfl dQ <| o_guard rfl rfl dQ (fun g8 => ?_) (fun g8 => ?_)
  ·
   have g8 : _ = false := g8
   refine o_faddr rfl rfl dQ dQ <| o_guardy rfl rfl g8 dQ <| o_load 0 rfl rfl rfl rfl dQ <| o_guardy rfl rfl g8 dQ <| o_faddr rfl rfl dQ dQ <| o_guardy rfl rfl g8 dQ <| o_load 0 rfl rfl rfl rfl dQ <| o_guardy rfl rfl g8 dQ <| o_cmp rfl rfl rfl dQ <| o_pickf rfl g8 rfl dQ <| o_move rfl dQ <| o_guard rfl rfl dQ (fun g10 => ?_) (fun g10 => ?_)
   ·
    have g10 : _ = false := g10
    refine o_faddr rfl rfl dQ dQ <| o_guardy rfl rfl g10 dQ <| o_load 0 rfl rfl rfl rfl dQ <| o_guardy rfl rfl g10 dQ <| o_load 1 rfl rfl rfl rfl dQ <| o_guardy rfl rfl g10 dQ <| o_call1 rfl rfl EntC.out dQ (nisIn_spec _ _ _) <| o_guardy rfl rfl g10 dQ <| o_not rfl dQ <| o_pickf rfl g10 rfl dQ <| o_assign rfl dQ <| o_nil ?_
    exact h_ret <| retS1 _ rfl (.cons _ (.refl _)) ⟨_, rfl, B_eq (by simp only [nbadD]; simp_all), rfl⟩
   ·
    have g10 : _ = true := g10
    exact o_guardn rfl rfl g10 dQ <| o_guardn rfl rfl g10 dQ <| o_guardn rfl rfl g10 dQ <| o_guardn rfl rfl g10 dQ <| o_pickt rfl g10 rfl dQ <| o_assign rfl dQ <| o_nil <| h_ret <| retS1 _ rfl (.cons _ (.refl _)) ⟨_, rfl, B_eq (by simp only [nbadD]; simp_all), rfl⟩
  ·
   have g8 : _ = true := g8
   refine o_guardn rfl rfl g8 dQ <| o_guardn rfl rfl g8 dQ <| o_guardn rfl rfl g8 dQ <| o_guardn rfl rfl g8 dQ <| o_pickt rfl g8 rfl dQ <| o_move rfl dQ <| o_guardn rfl rfl rfl dQ <| o_guardn rfl rfl rfl dQ <| o_guardn rfl rfl rfl dQ <| o_guardn rfl rfl rfl dQ <| o_guardn rfl rfl rfl dQ <| o_pickt rfl rfl rfl dQ ?_
   exact o_assign rfl dQ <| o_nil <| h_ret <| retS1 _ rfl (.cons _ (.refl _)) ⟨_, rfl, B_eq (by simp only [nbadD]; simp_all), rfl⟩
 ·
  have g6 : _ = true := g6
  refine o_guardn rfl rfl g6 dQ <| o_guardn rfl rfl g6 dQ <| o_guardn rfl rfl g6 dQ <| o_pickt rfl g6 rfl dQ <| o_move rfl dQ <| o_guardn rfl rfl rfl dQ <| o_guardn rfl rfl rfl dQ <| o_guardn rfl rfl rfl dQ <| o_guardn rfl rfl rfl dQ <| o_guardn rfl rfl rfl dQ <| o_pickt rfl rfl rfl dQ <| o_move rfl dQ ?_
  exact o_guardn rfl rfl rfl dQ <| o_guardn rfl rfl rfl dQ <| o_guardn rfl rfl rfl dQ <| o_guardn rfl rfl rfl dQ <| o_guardn rfl rfl rfl dQ <| o_pickt rfl rfl rfl dQ <| o_assign rfl dQ <| o_nil <| h_ret <| retS1 _ rfl (.cons _ (.refl _)) ⟨_, rfl, B_eq (by simp only [nbadD]; simp_all), rfl⟩

theorem are_hp (ds : List Dbt) (lim : Int) (e : Nat) : ∀ k (hk : k < ds.length), Fc Tryz.prog 134 ([.agg [I ds[k].fr, I ds[k].to, I ds[k].m]] ++ [.ptr e 0]) [(e, .box 3 [I lim])] (fun r h' => r = B (nbadD lim (ds.getD k dD)) ∧ h' = [(e, .box 3 [I lim])]) := fun k hk => by
  have := are1_spec lim ds[k] e
  rw [show ds.getD k dD = ds[k] from by simp [hk]]
  exact this

theorem are_spec (ds : List Dbt) (hlen : ds.length ≤ 1000000000) (fd : Bool) (lim : Int) : Fn1 Tryz.prog 94 [V (ds.map encD) fd, I lim] (B (decide ((ds.length : Int) ≤ 60) && !(List.range ds.length).any fun k => nbadD lim (ds.getD k dD))) := by
 refine fnE_intro (N := 16) Tryz.func94 rfl rfl rfl ?_
 intro X
 refine h_seq <| h_region <| o_box rfl rfl dQ fun x12 => o_assign rfl dQ <| o_nil <| h_seq <| h_region <| o_makeFunc rfl dQ <| o_assign rfl dQ <| o_nil <| h_seq <| h_region ?_
 refine o_move rfl dQ <| o_len rfl dQ <| o_cmp rfl rfl rfl dQ <| o_move rfl dQ <| o_guard rfl rfl dQ (fun g14 => ?_) (fun g14 => ?_)
 ·
  have g14 : _ = true := g14
  refine o_move rfl dQ <| o_guardy rfl rfl g14 dQ <| o_move rfl dQ <| o_guardy rfl rfl g14 dQ <| o_callA rfl rfl EntC.out dQ (dbtContains ds hlen fd 134 [.ptr x12 0] (fun _ => [(x12, .box 3 [I lim])]) (fun k => nbadD lim (ds.getD k dD)) (are_hp ds lim x12)) fun v h' hr => ?_
  obtain ⟨rfl, rfl⟩ := hr
  exact o_guardy rfl rfl g14 dQ <| o_not rfl dQ <| o_pickt rfl g14 rfl dQ <| o_assign rfl dQ <| o_nil <| h_ret <| ret1' rfl (B_eq (by first | (simp_all; done) | (simp_all; intro; omega)))
 ·
  have g14 : _ = false := g14
  exact o_guardn rfl rfl g14 dQ <| o_guardn rfl rfl g14 dQ <| o_guardn rfl rfl g14 dQ <| o_pickf rfl g14 rfl dQ <| o_assign rfl dQ <| o_nil <| h_ret <| ret1' rfl (B_eq (by first | (simp_all; done) | (simp_all; intro; omega)))

theorem nvalid_spec (ds : List Dbt) (hlen : ds.length ≤ 1000000000) (fd : Bool) : Fn1 Tryz.prog 35 [V (ds.map encD) fd] (B (nvalid ds)) := by
 refine fnE_intro (N := 5) Tryz.func35 rfl rfl rfl ?_
 intro X
 exact h_seq <| h_region <| o_assign rfl dQ <| o_nil <| h_seq <| h_region <| o_move rfl dQ <| o_call1 rfl rfl EntC.out dQ (are_spec ds hlen fd _) <| o_assign rfl dQ <| o_nil <| h_ret <| ret1' rfl rfl

def nbTo (ds : List Dbt) (k : Nat) : List Int := (ds.take k).foldl nbStep (List.replicate 8 0)
theorem nbTo_len (ds : List Dbt) (k : Nat) : (nbTo ds k).length = 8 := by simp only [nbTo, nb_len, List.length_replicate]
theorem nbTo_succ {ds : List Dbt} {k : Nat} (h : k < ds.length) : nbTo ds (k + 1) = nbStep (nbTo ds k) (ds.getD k dD) := by
  have e : ds.take (k + 1) = ds.take k ++ [ds.getD k dD] := by rw [List.take_add_one, List.getElem?_eq_getElem h]; simp [h]
  simp only [nbTo, e, List.foldl_append]; rfl
theorem nbTo_bd {ds : List Dbt} (h : ∀ d ∈ ds, okD d) : ∀ k, k ≤ ds.length → ∀ j, -(2000 * (k : Int)) ≤ (nbTo ds k).getD j 0 ∧ (nbTo ds k).getD j 0 ≤ 2000 * (k : Int)
  | 0, _, j => by
    have : (nbTo ds 0).getD j 0 = 0 := by simp only [nbTo, List.take_zero, List.foldl_nil]; rw [List.getD_eq_getElem?_getD, List.getElem?_replicate]; split <;> rfl
    rw [this]; omega
  | k + 1, hk, j => by
    have ih := nbTo_bd h k (by omega)
    obtain ⟨q1, q2, q3, q4⟩ := h (ds.getD k dD) (by rw [List.getD_eq_getElem?_getD, List.getElem?_eq_getElem (by omega)]; exact List.getElem_mem _)
    rw [nbTo_succ (by omega)]
    have b1 : ∀ j, -(2000 * (k : Int) + 1000) ≤ ((nbTo ds k).set (ds.getD k dD).fr.toNat ((nbTo ds k).getD (ds.getD k dD).fr.toNat 0 - (ds.getD k dD).m)).getD j 0 ∧ ((nbTo ds k).set (ds.getD k dD).fr.toNat ((nbTo ds k).getD (ds.getD k dD).fr.toNat 0 - (ds.getD k dD).m)).getD j 0 ≤ 2000 * (k : Int) + 1000 := fun j =>
      set_bd ih (by omega) (by have := ih (ds.getD k dD).fr.toNat; omega)
    exact set_bd b1 (by omega) (by have := b1 (ds.getD k dD).to.toNat; omega)

theorem nbals_spec (ds : List Dbt) (h : ∀ d ∈ ds, okD d) (hl : ds.length ≤ 60) (fd : Bool) : Fn1 Tryz.prog 93 [V (ds.map encD) fd] (V ((nbal ds).map encI) false) := by
 refine fnE_intro (N := 33) Tryz.func93 rfl rfl rfl ?_
 intro X
 refine h_seq <| h_region <| o_assign rfl dQ <| o_nil <| h_seq <| h_region <| o_makeSlice (n := 8) rfl dQ fun x17 => o_assign rfl dQ <| o_nil <| h_seq <| h_seq <| h_region ?_
 refine o_move rfl dQ <| o_len rfl dQ <| o_move rfl dQ <| o_nil <| h_block <| h_famS (ι := {k : Nat // k ≤ ds.length}) (fun i => [(3, .os x17 1 0 8 8), (7, V (ds.map encD) fd), (8, I ((ds.map encD).length : Nat)), (9, I (i.1 : Nat))]) (fun i => (x17, .arr 3 1 ((nbTo ds i.1).map encI) 8) :: []) (fun i => ds.length - i.1) ⟨0, Nat.zero_le _⟩ (.cons_cons _ (.refl _)) (subT.cons rfl (subT.cons rfl (subT.cons rfl (subT.cons rfl subT.nil)))) ?_
 rintro ⟨k, hk⟩
 dsimp only
 have hbl := nbTo_len ds k
 by_cases hlt : k < ds.length
 ·
  obtain ⟨d0, hd0⟩ : ∃ d0, d0 = ds.getD k dD := ⟨_, rfl⟩
  obtain ⟨q1, q2, q3, q4⟩ : okD d0 := h _ (by rw [hd0]; simp [hlt])
  have hbb1 : ∀ j, -130000 ≤ (nbTo ds k).getD j 0 ∧ (nbTo ds k).getD j 0 ≤ 130000 := fun j => by have := nbTo_bd h k (by omega) j; omega
  have hbb2 : ∀ j, -140000 ≤ ((nbTo ds k).set d0.fr.toNat ((nbTo ds k).getD d0.fr.toNat 0 - d0.m)).getD j 0 ∧ ((nbTo ds k).set d0.fr.toNat ((nbTo ds k).getD d0.fr.toNat 0 - d0.m)).getD j 0 ≤ 140000 := fun j => set_bd hbb1 (by omega) (by have := hbb1 d0.fr.toNat; omega)
  have hbs : nbTo ds (k + 1) = (((nbTo ds k).set d0.fr.toNat ((nbTo ds k).getD d0.fr.toNat 0 - d0.m)).set d0.to.toNat (((nbTo ds k).set d0.fr.toNat ((nbTo ds k).getD d0.fr.toNat 0 - d0.m)).getD d0.to.toNat 0 + d0.m)) := (nbTo_succ hlt).trans (by rw [← hd0]; rfl)
  refine h_seq <| h_region <| o_cmp rfl rfl rfl dQ <| o_nil <| h_seq <| h_condt rfl (by simp; omega) ?_
  refine h_skip <| h_seq <| h_block <| h_seq <| h_region <| o_idxv rfl rfl (by omega) (show _ = some (encD d0) from by rw [eltDP (by omega)]; simp only [Int.toNat_natCast, ← hd0]) rfl dQ <| o_loadv rfl rfl dQ <| o_alloc dQ fun x19 => ?_
  refine o_store 0 rfl rfl rfl rfl rfl rfl <| o_nil <| h_seq <| h_draw _ (.cons_cons _ (.cons _ (List.nil_sublist _))) [(0, .flo), (1, .flo), (2, .box), (3, .flo), (4, .val), (5, .flo), (6, .box), (7, .flo), (8, .flo), (9, .sto)] mixed (by kernel_rfl) <| c_flo rfl rfl (fun _ _ _ _ jj => o_move rfl dQ jj) <| c_flo rfl rfl (fun _ _ _ _ jj => o_faddr rfl rfl dQ dQ jj) <| c_box rfl rfl (fun _ _ _ _ jj => o_load 0 rfl rfl rfl rfl dQ jj) <| c_flo rfl rfl (fun _ _ _ _ jj => o_idxo rfl rfl (by omega) (by omega) dQ jj) <| c_val rfl rfl (fun _ _ _ _ jj => o_loade 1 rfl rfl (eltW (by simp [hbl]; omega)) rfl rfl dQ jj) ?_
  refine c_flo rfl rfl (fun _ _ _ _ jj => o_faddr rfl rfl dQ dQ jj) <| c_box rfl rfl (fun _ _ _ _ jj => o_load 0 rfl rfl rfl rfl dQ jj) <| c_flo rfl rfl (fun _ _ _ _ jj => o_sub rfl rfl (by have := hbb1 d0.fr.toNat; unfold in64; (try dsimp only); omega) dQ jj) ?_
  refine c_flo rfl rfl (fun _ _ _ _ jj => o_idxo rfl rfl (by omega) (by omega) dQ jj) ?_
  refine c_sto (.cons_cons _ (.cons _ (List.nil_sublist _))) rfl rfl (fun _ _ _ _ jj => o_storee 1 rfl rfl (eltW (by simp [hbl]; omega)) rfl rfl rfl rfl (by simp [encI]) jj) ?_
  refine c_nil <| h_heap (congrArg (fun z => [_, (x17, OB.arr 3 1 z 8)]) (setEnc0 (l := (nbTo ds k)) (n := d0.fr.toNat) (v := (nbTo ds k).getD d0.fr.toNat 0 - d0.m))) <| h_draw _ (.cons_cons _ (.cons _ (List.nil_sublist _))) [(0, .flo), (1, .flo), (2, .box), (3, .flo), (4, .val), (5, .flo), (6, .box), (7, .flo), (8, .flo), (9, .sto)] mixed (by kernel_rfl) <| c_flo rfl rfl (fun _ _ _ _ jj => o_move rfl dQ jj) <| c_flo rfl rfl (fun _ _ _ _ jj => o_faddr rfl rfl dQ dQ jj) <| c_box rfl rfl (fun _ _ _ _ jj => o_load 0 rfl rfl rfl rfl dQ jj) <| c_flo rfl rfl (fun _ _ _ _ jj => o_idxo rfl rfl (by omega) (by omega) dQ jj) <| c_val rfl rfl (fun _ _ _ _ jj => o_loade 1 rfl rfl (eltW (by simp [hbl]; omega)) rfl rfl dQ jj) ?_
  refine c_flo rfl rfl (fun _ _ _ _ jj => o_faddr rfl rfl dQ dQ jj) <| c_box rfl rfl (fun _ _ _ _ jj => o_load 0 rfl rfl rfl rfl dQ jj) <| c_flo rfl rfl (fun _ _ _ _ jj => o_add rfl rfl (by have := hbb2 d0.to.toNat; unfold in64; (try dsimp only); omega) dQ jj) ?_
  refine c_flo rfl rfl (fun _ _ _ _ jj => o_idxo rfl rfl (by omega) (by omega) dQ jj) ?_
  refine c_sto (.cons_cons _ (.cons _ (List.nil_sublist _))) rfl rfl (fun _ _ _ _ jj => o_storee 1 rfl rfl (eltW (by simp [hbl]; omega)) rfl rfl rfl rfl (by simp [encI]) jj) ?_
  refine c_nil <| h_heap (congrArg (fun z => [_, (x17, OB.arr 3 1 z 8)]) (setEnc0 (l := ((nbTo ds k).set d0.fr.toNat ((nbTo ds k).getD d0.fr.toNat 0 - d0.m))) (n := d0.to.toNat) (v := ((nbTo ds k).set d0.fr.toNat ((nbTo ds k).getD d0.fr.toNat 0 - d0.m)).getD d0.to.toNat 0 + d0.m))) <| h_region <| o_add rfl rfl (by unfold in64; (try dsimp only); omega) dQ ?_
  refine o_move rfl dQ <| o_nil <| back rfl ⟨k + 1, hlt⟩ (by dsimp only; omega) (by dsimp only; rw [hbs]; exact (.cons _ (.cons_cons _ (.refl _)))) (subT.cons rfl (subT.cons rfl (subT.cons rfl (subT.cons rfl subT.nil))))
 ·
  obtain rfl : k = ds.length := by omega
  refine h_seq <| h_region <| o_cmp rfl rfl rfl dQ <| o_nil <| h_seq <| h_condf rfl (by simp <;> omega) ?_
  exact h_exit <| h_seq <| h_region <| o_move rfl dQ <| o_assign rfl dQ <| o_nil <| h_ret <| retF (.cons (resT rfl) .nil) (frz_os List.mem_cons_self (by simp [hbl]) (by omega)) ⟨_, rfl, by simp only [nbTo, List.take_length]; rfl, rfl⟩

theorem nbalances_spec (ds : List Dbt) (h : ∀ d ∈ ds, okD d) (hl : ds.length ≤ 60) (fd : Bool) : Fn1 Tryz.prog 33 [V (ds.map encD) fd] (.tup [V ((nbal ds).map encI) false, I 0]) := by
 have hnv := nvalid_of h hl; refine fnE_intro (N := 9) Tryz.func33 rfl rfl rfl ?_
 intro X
 refine h_seq <| h_region <| o_assign rfl dQ <| o_assign rfl dQ <| o_nil <| h_seq <| h_seq <| h_region <| o_move rfl dQ <| o_call1 rfl rfl EntC.out dQ (nvalid_spec ds (by omega) fd) <| o_not rfl dQ <| o_nil ?_
 exact h_condf rfl (by rw [hnv]; rfl) <| h_skip <| h_seq <| h_region <| o_move rfl dQ <| o_call1 rfl rfl EntC.out dQ (nbals_spec ds h hl fd) <| o_assign rfl dQ <| o_assign rfl dQ <| o_nil <| h_ret <| ret2' rfl rfl rfl

end Go.Proofs.YtnoicbajhlpndaaGreat
/- The walk of the law MergeMoney. -/
namespace Go.Proofs.YtnoicbajhlpndaaGreat
open Go Go.RowKit Go.Shelf Hp
set_option maxRecDepth 10000
set_option maxHeartbeats 1000000
set_option linter.unusedVariables false
set_option linter.unusedSimpArgs false
attribute [local irreducible] WP WPs FnX IterX YdX RetP PanP Ch Back Join
theorem badD_no {ds : List Dbt} (h : ∀ d ∈ ds, okD d) : (List.range ds.length).any (fun k => badD (ds.getD k dD)) = false := any_no fun k hk => by
  obtain ⟨q1, q2, q3, q4⟩ := h (ds.getD k dD) (by rw [List.getD_eq_getElem?_getD, List.getElem?_eq_getElem hk]; exact List.getElem_mem hk)
  unfold badD; rw [carOk_iff.2 q1, carOk_iff.2 q2]; rfl

theorem mergeMoney_spec (a0 a1 a2 : Int) (ha0 : in64 a0) (ha1 : in64 a1) (ha2 : in64 a2) (x : List T3) (hxl : x.length ≤ 1000000000) (hx : ok3 x) (fx : Bool) (y : List T3) (hyl : y.length ≤ 1000000000) (hy : ok3 y) (fy : Bool) (z : List T7) (hzl : z.length ≤ 1000000000) (hz : ok7 z) (fz : Bool) : Fn1 Tryz.prog 6 [.agg [I a0, I a1, I a2], V (x.map enc3) fx, V (y.map enc3) fy, V (z.map enc7) fz] (B true) := by
 refine fnE_intro (N := 129) Tryz.func6 rfl rfl rfl ?_
 intro X
 refine h_seq <| h_region <| o_box rfl rfl dQ fun x1 => o_assign rfl dQ <| o_nil <| h_seq <| h_region <| o_call1 rfl rfl EntC.out dQ sane_spec <| o_assign rfl dQ <| o_nil <| h_seq <| h_seq ?_
 refine h_region <| o_move rfl dQ <| o_not rfl dQ <| o_nil <| h_condf rfl rfl <| h_skip <| h_seq <| h_region <| o_load 0 rfl rfl rfl rfl dQ <| o_move rfl dQ <| o_move rfl dQ <| o_callN rfl rfl EntC.out dQ (made_spec a0 a1 a2 ha0 ha1 ha2 x y hxl hyl hx hy fx fy) fun v h' hr => ?_
 obtain ⟨⟨ds, w1, w2, w3, w4, rfl, hdl, hgd, hlk⟩, rfl⟩ := hr
 obtain ⟨hmv, hmb, hmm, hma⟩ := made_valid a0 a1 x a2 ds hdl hgd
 have how := madeW_owes (a1 := a1) (a2 := a2) (x := x) hgd hlk
 have hds : ∀ d ∈ ds, okD d := fun d hd => okD_of (hgd d hd) (hlk d hd)
 obtain ⟨w, hw⟩ : ∃ w, w = madeW a0 a1 x a2 ds := ⟨_, rfl⟩
 rw [← hw] at hmv hmb hmm how ⊢
 refine o_move rfl dQ <| o_extract rfl rfl dQ <| o_extract rfl rfl dQ <| o_alloc dQ fun x3 => ?_
 refine o_store 0 rfl rfl rfl rfl rfl rfl <| o_assign rfl dQ <| o_nil <| h_seq <| h_region <| o_load 0 rfl rfl rfl rfl dQ <| o_move rfl dQ <| o_callN rfl rfl EntC.out dQ (events42_spec w hmv w1 w2 w3 z hzl hz fz) fun v h' hr => ?_
 obtain ⟨⟨l, fl, rfl, hl8, hps⟩, rfl⟩ := hr
 refine o_assign rfl dQ <| o_nil <| h_seq <| h_region <| o_load 0 rfl rfl rfl rfl dQ <| o_move rfl dQ <| o_callN rfl rfl EntC.out dQ (run_spec w l (by omega) w1 w2 w3 fl) fun v9 h' hr => ?_
 obtain ⟨rfl, u1, u2, u3, rfl⟩ := hr
 have hrun := runM_poss hmv (by omega) hps
 rw [hrun]
 dsimp only
 have hvv := worldA_valid hmv hps
 obtain ⟨hmo, hmd⟩ := money_law hmv hps how hds
 have hdl2 := debts_len l ds
 have hdm : debtsM w l ds = (l.foldl debtE ds, 0) := by unfold debtsM; rw [hrun, badD_no hds]; rfl
 have hn1 := nbal_eq hmv.lb hds how
 have hn2 := nbal_eq hvv.lb hmd hmo
 have hnv := nvalid_of hmd (by omega)
 have hdead := fun j (j0 : (0 : Int) ≤ j) (j1 : j ≤ 7) h => (lev_dead hvv j0 j1 h).2
 obtain ⟨v, hv⟩ : ∃ v, v = worldA w l := ⟨_, rfl⟩
 rw [← hv] at hvv hn2 hdead ⊢
 have hb8 := hvv.lb
 have hsum := hvv.sum
 refine o_move rfl dQ <| o_extract rfl rfl dQ <| o_extract rfl rfl dQ <| o_extract rfl rfl dQ <| o_alloc dQ fun x4 => ?_
 refine o_store 0 rfl rfl rfl rfl rfl rfl <| o_assign rfl dQ <| o_assign rfl dQ <| o_nil <| h_seq <| h_seq <| h_region <| o_move rfl dQ <| o_cmp rfl rfl rfl dQ <| o_move rfl dQ <| o_guardy rfl rfl dQ dQ <| o_move rfl dQ ?_
 refine o_guardy rfl rfl dQ dQ <| o_move rfl dQ <| o_guardy rfl rfl dQ dQ <| o_len rfl dQ <| o_guardy rfl rfl dQ dQ <| o_cmp rfl rfl rfl dQ <| o_pickf rfl dQ rfl dQ <| o_move rfl dQ <| o_guardy rfl rfl (by simp) dQ ?_
 refine o_faddr rfl rfl dQ dQ <| o_guardy rfl rfl (by simp) dQ ?_
 refine o_load 0 rfl rfl rfl rfl dQ <| o_guardy rfl rfl (by simp) dQ ?_
 refine o_len rfl dQ <| o_guardy rfl rfl (by simp) dQ ?_
 refine o_cmp rfl rfl rfl dQ <| o_pickf rfl (by simp) rfl dQ ?_
 refine o_nil <| h_condf rfl (by simp [hb8]) ?_
 refine h_skip <| h_seq <| h_region <| o_assign rfl dQ <| o_nil <| h_seq <| h_seq <| h_region <| o_assign rfl dQ <| o_nil <| h_block <| h_famS (ι := {q : Nat // q ≤ 8}) (fun i => [(10, .ptr x3 0), (11, V (ds.map encD) w4), (12, V (l.map encV) fl), (13, .ptr x4 0), (16, I (sumTo v i.1)), (17, I (i.1 : Nat))]) (fun i => (x4, .box 32 (cellsW v u1 u2 u3)) :: (x3, .box 32 (cellsW w w1 w2 w3)) :: []) (fun i => 8 - i.1) ⟨0, Nat.zero_le _⟩ (.cons_cons _ (.cons_cons _ (.cons _ (.refl _)))) (subT.cons rfl (subT.cons rfl (subT.cons rfl (subT.cons rfl (subT.cons rfl (subT.cons rfl subT.nil)))))) ?_
 rintro ⟨q, hq⟩
 dsimp only
 by_cases hlt : q < 8
 have hsb := sumTo_bound (w := v) q (fun j hj => hvv.ok j (by omega))
 ·
  have hbb := bal_bound hvv q
  have hdq := hdead (q : Int) (by omega) (by omega)
  refine h_seq <| h_seq <| h_region <| o_move rfl dQ <| o_cmp rfl rfl rfl dQ <| o_nil <| h_condt rfl (by simp; omega) ?_
  refine h_skip <| h_seq <| h_block <| h_seq <| h_region <| o_move rfl dQ <| o_faddr rfl rfl dQ dQ <| o_load 0 rfl rfl rfl rfl dQ <| o_move rfl dQ <| o_idxv rfl rfl (by omega) (eltIn (by rw [hb8]; omega)) rfl dQ <| o_loadv rfl rfl dQ <| o_add rfl rfl (by unfold in64; simp only [Int.toNat_natCast]; omega) dQ ?_
  refine o_assign rfl dQ <| o_nil <| h_seq <| h_region <| o_faddr rfl rfl dQ dQ <| o_load 0 rfl rfl rfl rfl dQ <| o_move rfl dQ ?_
  refine o_call1 rfl rfl EntC.out dQ (bitL_spec _ _ (by omega) (by omega)) <| o_not rfl dQ <| o_move rfl dQ <| o_guard rfl rfl dQ (fun g10 => ?_) (fun g10 => ?_)
  ·
   have g10 : _ = true := g10
   refine o_faddr rfl rfl dQ dQ <| o_guardy rfl rfl g10 dQ <| o_load 0 rfl rfl rfl rfl dQ <| o_guardy rfl rfl g10 dQ <| o_move rfl dQ <| o_guardy rfl rfl g10 dQ <| o_idxv rfl rfl (by omega) (eltIn (by rw [hb8]; omega)) rfl dQ <| o_guardy rfl rfl g10 dQ <| o_loadv rfl rfl dQ <| o_guardy rfl rfl g10 dQ <| o_cmp rfl rfl rfl dQ <| o_pickt rfl g10 rfl dQ ?_
   refine o_nil <| h_condf rfl (by have := hdq (by simpa using g10); simp only [Int.toNat_natCast] at this ⊢; rw [decide_eq_true this]; rfl) ?_
   refine h_skip <| h_region <| o_move rfl dQ <| o_add rfl rfl (by unfold in64; (try dsimp only); omega) dQ ?_
   refine o_assign rfl dQ <| o_nil <| back rfl ⟨q + 1, hlt⟩ (by dsimp only; omega) (.cons_cons _ (.cons_cons _ (.refl _))) (subT.cons rfl (subT.cons rfl (subT.cons rfl (subT.cons rfl (subT.cons rfl (subT.cons rfl subT.nil))))))
  ·
   have g10 : _ = false := g10
   refine o_guardn rfl rfl g10 dQ <| o_guardn rfl rfl g10 dQ <| o_guardn rfl rfl g10 dQ <| o_guardn rfl rfl g10 dQ <| o_guardn rfl rfl g10 dQ <| o_pickf rfl g10 rfl dQ <| o_nil <| h_condf rfl rfl <| h_skip <| h_region <| o_move rfl dQ <| o_add rfl rfl (by unfold in64; (try dsimp only); omega) dQ ?_
   refine o_assign rfl dQ <| o_nil <| back rfl ⟨q + 1, hlt⟩ (by dsimp only; omega) (.cons_cons _ (.cons_cons _ (.refl _))) (subT.cons rfl (subT.cons rfl (subT.cons rfl (subT.cons rfl (subT.cons rfl (subT.cons rfl subT.nil))))))
 ·
  obtain rfl : q = 8 := by omega
  refine h_seq <| h_seq <| h_region <| o_move rfl dQ <| o_cmp rfl rfl rfl dQ <| o_nil <| h_condf rfl (by simp <;> omega) ?_
  refine h_exit <| h_seq <| h_region <| o_move rfl dQ <| o_call1 rfl rfl EntC.out dQ (nbalances_spec ds hds (by omega) _) <| o_move rfl dQ <| o_extract rfl rfl dQ <| o_extract rfl rfl dQ <| o_assign rfl dQ <| o_assign rfl dQ <| o_nil <| h_seq ?_
  refine h_region <| o_load 1 rfl rfl rfl rfl dQ <| o_move rfl dQ <| o_move rfl dQ <| o_callN rfl rfl EntC.out dQ (debts_spec w l (by omega) w1 w2 w3 fl ds (by omega) w4) fun v9 h' hr => ?_
  obtain ⟨⟨fm, rfl⟩, rfl⟩ := hr
  rw [hdm]
  dsimp only
  refine o_move rfl dQ <| o_extract rfl rfl dQ <| o_extract rfl rfl dQ <| o_assign rfl dQ <| o_assign rfl dQ <| o_nil <| h_seq <| h_region <| o_move rfl dQ <| o_call1 rfl rfl EntC.out dQ (nbalances_spec (l.foldl debtE ds) hmd (by omega) _) <| o_move rfl dQ <| o_extract rfl rfl dQ ?_
  refine o_extract rfl rfl dQ <| o_assign rfl dQ <| o_assign rfl dQ <| o_nil <| h_seq <| h_region <| o_move rfl dQ <| o_cmp rfl rfl rfl dQ <| o_move rfl dQ <| o_guardy rfl rfl (by rw [hsum]; decide) dQ <| o_move rfl dQ <| o_guardy rfl rfl (by rw [hsum]; decide) dQ ?_
  refine o_cmp rfl rfl rfl dQ <| o_pickt rfl (by rw [hsum]; decide) rfl dQ <| o_move rfl dQ <| o_guard rfl rfl dQ (fun g15 => ?_) (fun g15 => ?_)
  ·
   have g15 : _ = true := g15
   refine o_move rfl dQ <| o_guardy rfl rfl g15 dQ <| o_cmp rfl rfl rfl dQ <| o_pickt rfl g15 rfl dQ <| o_move rfl dQ <| o_guard rfl rfl dQ (fun g17 => ?_) (fun g17 => ?_)
   ·
    have g17 : _ = true := g17
    refine o_move rfl dQ <| o_guardy rfl rfl g17 dQ <| o_cmp rfl rfl rfl dQ <| o_pickt rfl g17 rfl dQ <| o_move rfl dQ <| o_guard rfl rfl dQ (fun g19 => ?_) (fun g19 => ?_)
    ·
     have g19 : _ = true := g19
     refine o_move rfl dQ <| o_guardy rfl rfl g19 dQ <| o_faddr rfl rfl dQ dQ <| o_guardy rfl rfl g19 dQ <| o_load 1 rfl rfl rfl rfl dQ <| o_guardy rfl rfl g19 dQ <| o_call1 rfl rfl EntC.out dQ (ints_spec (nbal ds) w.bal (by rw [hn1, hmv.lb]; omega) (by rw [hmv.lb]; omega) _ _) <| o_pickt rfl g19 rfl dQ <| o_move rfl dQ <| o_guard rfl rfl dQ (fun g21 => ?_) (fun g21 => ?_)
     ·
      have g21 : _ = true := g21
      refine o_move rfl dQ <| o_guardy rfl rfl g21 dQ <| o_faddr rfl rfl dQ dQ <| o_guardy rfl rfl g21 dQ <| o_load 0 rfl rfl rfl rfl dQ <| o_guardy rfl rfl g21 dQ <| o_call1 rfl rfl EntC.out dQ (ints_spec (nbal (l.foldl debtE ds)) v.bal (by rw [hn2, hb8]; omega) (by rw [hb8]; omega) _ _) <| o_pickt rfl g21 rfl dQ <| o_move rfl dQ <| o_guard rfl rfl dQ (fun g23 => ?_) (fun g23 => ?_)
      ·
       have g23 : _ = true := g23
       exact o_move rfl dQ <| o_guardy rfl rfl g23 dQ <| o_call1 rfl rfl EntC.out dQ (nvalid_spec (l.foldl debtE ds) (by omega) _) <| o_pickt rfl g23 rfl dQ <| o_assign rfl dQ <| o_nil <| h_ret <| ret1' rfl (B_eq (by simp_all))
      ·
       have g23 : _ = false := g23
       exact o_guardn rfl rfl g23 dQ <| o_pickf rfl g23 rfl dQ <| o_assign rfl dQ <| o_nil <| h_ret <| ret1' rfl (B_eq (by simp_all))
     ·
      have g21 : _ = false := g21
      exact o_guardn rfl rfl g21 dQ <| o_guardn rfl rfl g21 dQ <| o_guardn rfl rfl g21 dQ <| o_pickf rfl g21 rfl dQ <| o_move rfl dQ <| o_guardn rfl rfl rfl dQ <| o_guardn rfl rfl rfl dQ <| o_pickf rfl rfl rfl dQ <| o_assign rfl dQ <| o_nil <| h_ret <| ret1' rfl (B_eq (by simp_all))
    ·
     have g19 : _ = false := g19
     refine o_guardn rfl rfl g19 dQ <| o_guardn rfl rfl g19 dQ <| o_guardn rfl rfl g19 dQ <| o_pickf rfl g19 rfl dQ <| o_move rfl dQ <| o_guardn rfl rfl rfl dQ <| o_guardn rfl rfl rfl dQ <| o_guardn rfl rfl rfl dQ <| o_guardn rfl rfl rfl dQ <| o_pickf rfl rfl rfl dQ <| o_move rfl dQ <| o_guardn rfl rfl rfl dQ ?_
     exact o_guardn rfl rfl rfl dQ <| o_pickf rfl rfl rfl dQ <| o_assign rfl dQ <| o_nil <| h_ret <| ret1' rfl (B_eq (by simp_all))
   ·
    have g17 : _ = false := g17
    refine o_guardn rfl rfl g17 dQ <| o_pickf rfl g17 rfl dQ <| o_move rfl dQ <| o_guardn rfl rfl rfl dQ <| o_guardn rfl rfl rfl dQ <| o_guardn rfl rfl rfl dQ <| o_guardn rfl rfl rfl dQ <| o_pickf rfl rfl rfl dQ <| o_move rfl dQ <| o_guardn rfl rfl rfl dQ <| o_guardn rfl rfl rfl dQ <| o_guardn rfl rfl rfl dQ ?_
    exact o_guardn rfl rfl rfl dQ <| o_pickf rfl rfl rfl dQ <| o_move rfl dQ <| o_guardn rfl rfl rfl dQ <| o_guardn rfl rfl rfl dQ <| o_pickf rfl rfl rfl dQ <| o_assign rfl dQ <| o_nil <| h_ret <| ret1' rfl (B_eq (by simp_all))
  ·
   have g15 : _ = false := g15
   refine o_guardn rfl rfl g15 dQ <| o_pickf rfl g15 rfl dQ <| o_move rfl dQ <| o_guardn rfl rfl rfl dQ <| o_guardn rfl rfl rfl dQ <| o_pickf rfl rfl rfl dQ <| o_move rfl dQ <| o_guardn rfl rfl rfl dQ <| o_guardn rfl rfl rfl dQ <| o_guardn rfl rfl rfl dQ <| o_guardn rfl rfl rfl dQ <| o_pickf rfl rfl rfl dQ ?_
   refine o_move rfl dQ <| o_guardn rfl rfl rfl dQ <| o_guardn rfl rfl rfl dQ <| o_guardn rfl rfl rfl dQ <| o_guardn rfl rfl rfl dQ <| o_pickf rfl rfl rfl dQ <| o_move rfl dQ <| o_guardn rfl rfl rfl dQ <| o_guardn rfl rfl rfl dQ <| o_pickf rfl rfl rfl dQ <| o_assign rfl dQ <| o_nil ?_
   exact h_ret <| ret1' rfl (B_eq (by simp_all))

end Go.Proofs.YtnoicbajhlpndaaGreat
