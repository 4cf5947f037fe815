/- The walks of package merge: debts. -/
import Derived.Test.YtbnonekkjjcdgaaMergeC
namespace Go.Proofs.Ytbnonekkjjcdgaa
open Go Go.RowKit Go.Shelf Hp
set_option maxRecDepth 10000
set_option maxHeartbeats 1000000
set_option linter.unusedVariables false
set_option linter.unusedSimpArgs false
attribute [local irreducible] WP WPs FnX IterX YdX RetP PanP Ch Back Join
structure Dbt where
  fr : Int
  to : Int
  m : Int
  deriving DecidableEq, Inhabited
def encD (d : Dbt) : List PV := [pI d.fr, pI d.to, pI d.m]
def dD : Dbt := ⟨0, 0, 0⟩
/-- A slice of debts that is one's own: nil, or an array. -/
def DebtsAt (l : List Dbt) (v : AV) (h : AHeap) : Prop := (l = [] ∧ v = V [] true ∧ h = []) ∨ (∃ b cap, l.length ≤ cap ∧ v = .os b 3 0 l.length cap ∧ h = [(b, .arr 64 3 (l.map encD) cap)])
theorem okB_D {l : List Dbt} : ∀ z ∈ l.map encD, okB 3 z = true := by
  intro z hz; obtain ⟨b, _, rfl⟩ := List.mem_map.1 hz; rfl
theorem eltD {l : List Dbt} {n : Int} (h : n.toNat < l.length) : (l.map encD)[0 + n.toNat]? = some (encD (l.getD n.toNat dD)) := by
  rw [Nat.zero_add]; simp [h]
theorem setD0 {l : List Dbt} {n : Nat} {v : Dbt} {w : List PV} (hw : w = encD v) : (l.map encD).set (0 + n) w = (l.set n v).map encD := by
  rw [Nat.zero_add, List.map_set, hw]
theorem setD {l : List Dbt} {n : Nat} {v : Dbt} {w : List PV} (h : n < l.length) (hw : w = encD v) : (l.map encD).set n w = (l.set n v).map encD := by
  rw [List.map_set, hw]

theorem dbtIndex (l : List Dbt) (hlen : l.length ≤ 1000000000) (fl : Bool) (g : FuncId) [hg : EntC Try.prog g] (caps : List AV) (J : Nat → AHeap) (p : Nat → Bool) (hp : ∀ k (hk : k < l.length), Fc Try.prog g ([.agg [I l[k].fr, I l[k].to, I l[k].m]] ++ caps) (J k) (fun r h' => r = B (p k) ∧ h' = J (k + 1))) : Fc Try.prog 69 [V (l.map encD) fl, .fn g caps] (J 0) (fun r h' => r = I (idxOf p l.length) ∧ h' = J (cntOf p l.length)) := by
  refine fnE_intro (N := 19) Try.func69 rfl rfl rfl ?_
  intro X
  refine h_seq ?_
  refine h_region ?_
  refine o_assign rfl (by decide) ?_
  refine o_nil ?_
  refine h_seq ?_
  refine h_seq ?_
  refine h_region ?_
  refine o_move rfl (by decide) ?_
  refine o_len rfl (by decide) ?_
  refine o_move rfl (by decide) ?_
  refine o_nil ?_
  refine h_block ?_
  refine h_famS (ι := {k : Nat // k ≤ l.length ∧ ∀ j, j < k → p j = false}) (fun i => [(0, V (l.map encD) fl), (1, .fn g caps), (7, I ((l.map encD).length : Nat)), (8, I (i.1 : Nat))]) (fun i => J i.1) (fun i => l.length - i.1) ⟨0, Nat.zero_le _, fun j hj => absurd hj (Nat.not_lt_zero j)⟩ (.refl _) (subT.cons rfl (subT.cons rfl (subT.cons rfl (subT.cons rfl subT.nil)))) ?_
  rintro ⟨k, hk, hb⟩
  by_cases hlt : k < l.length
  ·
    refine h_seq ?_
    refine h_region ?_
    refine o_cmp rfl rfl rfl (by decide) ?_
    refine o_nil ?_
    refine h_seq ?_
    refine h_condt rfl (by simp; omega) ?_
    refine h_skip ?_
    refine h_seq ?_
    refine h_block ?_
    refine h_seq ?_
    refine h_region ?_
    refine o_move rfl (by decide) ?_
    refine o_assign rfl (by decide) ?_
    refine o_nil ?_
    refine h_seq ?_
    refine h_region ?_
    refine o_move rfl (by decide) ?_
    refine o_move rfl (by decide) ?_
    refine o_move rfl (by decide) ?_
    refine o_idxv rfl rfl (by omega) (elt_map hlt) rfl (by decide) ?_
    refine o_loadv rfl rfl (by decide) ?_
    refine o_callA rfl rfl hg.out (by decide) (hp k hlt) fun v h' hr => ?_
    obtain ⟨rfl, rfl⟩ := hr
    refine o_nil ?_
    refine h_cond rfl (fun c3 => ?_) (fun c3 => ?_)
    ·
      refine h_seq ?_
      refine h_region ?_
      refine o_move rfl (by decide) ?_
      refine o_assign rfl (by decide) ?_
      refine o_nil ?_
      refine h_ret ?_
      obtain ⟨e1, e2⟩ := idx_some hlt c3 hb
      exact retK1 rfl ⟨_, rfl, by rw [e1], by rw [e2]⟩
    ·
      refine h_skip ?_
      refine h_region ?_
      refine o_add rfl rfl (by unfold in64; (try dsimp only); omega) (by decide) ?_
      refine o_move rfl (by decide) ?_
      refine o_nil ?_
      refine back rfl ⟨k + 1, hlt, fun j hj => (by rcases Nat.lt_succ_iff_lt_or_eq.1 hj with h | h; exact hb j h; subst h; assumption)⟩ (by show l.length - (k + 1) < l.length - k; omega) (.refl _) (subT.cons rfl (subT.cons rfl (subT.cons rfl (subT.cons rfl subT.nil))))
  ·
    refine h_seq ?_
    refine h_region ?_
    refine o_cmp rfl rfl rfl (by decide) ?_
    refine o_nil ?_
    refine h_seq ?_
    refine h_condf rfl (by simp; omega) ?_
    refine h_exit ?_
    refine h_seq ?_
    refine h_region ?_
    refine o_assign rfl (by decide) ?_
    refine o_nil ?_
    refine h_ret ?_
    obtain rfl : k = l.length := by omega
    obtain ⟨e1, e2⟩ := idx_none hb
    exact retK1 rfl ⟨_, rfl, by rw [e1]; rfl, by rw [e2]⟩

theorem dbtContains (l : List Dbt) (hlen : l.length ≤ 1000000000) (fl : Bool) (g : FuncId) [hg : EntC Try.prog g] (caps : List AV) (J : Nat → AHeap) (p : Nat → Bool) (hp : ∀ k (hk : k < l.length), Fc Try.prog g ([.agg [I l[k].fr, I l[k].to, I l[k].m]] ++ caps) (J k) (fun r h' => r = B (p k) ∧ h' = J (k + 1))) : Fc Try.prog 46 [V (l.map encD) fl, .fn g caps] (J 0) (fun r h' => r = B ((List.range l.length).any p) ∧ h' = J (cntOf p l.length)) := by
  refine fnE_intro (N := 9) Try.func46 rfl rfl rfl ?_
  intro X
  refine h_seq ?_
  refine h_region ?_
  refine o_assign rfl (by decide) ?_
  refine o_nil ?_
  refine h_seq ?_
  refine h_region ?_
  refine o_move rfl (by decide) ?_
  refine o_move rfl (by decide) ?_
  refine o_callA rfl rfl EntC.out (by decide) (dbtIndex l hlen fl g caps J p hp) fun v h' hr => ?_
  obtain ⟨rfl, rfl⟩ := hr
  refine o_cmp rfl rfl rfl (by decide) ?_
  refine o_assign rfl (by decide) ?_
  refine o_nil ?_
  refine h_ret ?_
  exact retK1 rfl ⟨_, rfl, B_eq idx_any, rfl⟩

theorem cloneD_nil (f : Bool) : Fc Try.prog 47 [V [] f] [] (fun r h' => DebtsAt [] r h') := by
  refine fnE_intro (N := 8) Try.func47 rfl rfl rfl ?_
  intro X
  refine h_seq ?_
  refine h_region ?_
  refine o_assign rfl (by decide) ?_
  refine o_nil ?_
  refine h_seq ?_
  refine h_seq ?_
  refine h_region ?_
  refine o_move rfl (by decide) ?_
  refine o_eqnil rfl (by decide) fun b6 hbb6 => ?_
  refine o_nil ?_
  refine h_cond rfl (fun c7 => ?_) (fun c7 => ?_)
  ·
    refine h_seq ?_
    refine h_region ?_
    refine o_assign rfl (by decide) ?_
    refine o_nil ?_
    refine h_ret ?_
    exact ret1 rfl ⟨_, rfl, .inl ⟨rfl, rfl, rfl⟩⟩
  ·
    refine h_skip ?_
    refine h_seq ?_
    refine h_region ?_
    refine o_buildSlicep rfl (by rfl) (by rfl) (by rfl) (by rfl) (by decide) ?_
    refine o_move rfl (by decide) ?_
    refine o_append0 rfl rfl (by decide) ?_
    refine o_assign rfl (by decide) ?_
    refine o_nil ?_
    refine h_ret ?_
    exact ret1 rfl ⟨_, rfl, .inl ⟨rfl, rfl, rfl⟩⟩

theorem cloneD_cons (x : Dbt) (l : List Dbt) (hlen : (x :: l).length ≤ 1000000000) (f : Bool) : Fc Try.prog 47 [V ((x :: l).map encD) f] [] (fun r h' => DebtsAt (x :: l) r h') := by
  refine fnE_intro (N := 8) Try.func47 rfl rfl rfl ?_
  intro X
  refine h_seq ?_
  refine h_region ?_
  refine o_assign rfl (by decide) ?_
  refine o_nil ?_
  refine h_seq ?_
  refine h_seq ?_
  refine h_region ?_
  refine o_move rfl (by decide) ?_
  refine o_eqnil rfl (by decide) fun b8 hbb8 => ?_
  refine o_nil ?_
  refine h_cond rfl (fun c9 => ?_) (fun c9 => ?_)
  ·
    refine h_seq ?_
    refine h_region ?_
    refine o_assign rfl (by decide) ?_
    refine o_nil ?_
    refine h_ret ?_
    exact absurd (hbb8 c9) (by simp)
  ·
    refine h_skip ?_
    refine h_seq ?_
    refine h_region ?_
    refine o_buildSlicep rfl (by rfl) (by rfl) (by rfl) (by rfl) (by decide) ?_
    refine o_move rfl (by decide) ?_
    refine o_appendv rfl rfl (Src.v _ _) okB_D (by simp [chunk]) (by simp) (by simp [chunk_length] at hlen ⊢; omega) (by decide) fun x10 c11 hc12 => ?_
    refine o_assign rfl (by decide) ?_
    refine o_nil ?_
    refine h_ret ?_
    exact retS1 [_] rfl (.refl _) ⟨_, rfl, .inr ⟨x10, c11, (by simpa [chunk_length] using hc12), (by simp [chunk_length]), by simp [chunk]⟩⟩

theorem cloneD_spec (l : List Dbt) (hlen : l.length ≤ 1000000000) (f : Bool) : Fc Try.prog 47 [V (l.map encD) f] [] (fun r h' => DebtsAt l r h') := by
  cases l with
  | nil => exact cloneD_nil f
  | cons x l => exact cloneD_cons x l hlen f
def owedM (l : List Dbt) (a b m : Int) : List Dbt := if 0 < m then l ++ [⟨a, b, m⟩] else if m < 0 then l ++ [⟨b, a, -m⟩] else l

theorem owed_nil (a b m : Int) (hm : -1000000000000 ≤ m ∧ m ≤ 1000000000000) : Fc Try.prog 49 [V [] true, I a, I b, I m] [] (fun r h' => DebtsAt (owedM [] a b m) r h') := by
  refine fnE_intro (N := 31) Try.func49 rfl rfl rfl ?_
  intro X
  refine h_seq ?_
  refine h_region ?_
  refine o_assign rfl (by decide) ?_
  refine o_nil ?_
  refine h_seq ?_
  refine h_block ?_
  refine h_seq ?_
  refine h_region ?_
  refine o_move rfl (by decide) ?_
  refine o_cmp rfl rfl rfl (by decide) ?_
  refine o_assign rfl (by decide) ?_
  refine o_nil ?_
  refine h_cond rfl (fun c14 => ?_) (fun c14 => ?_)
  ·
    refine h_seq ?_
    refine h_region ?_
    refine o_move rfl (by decide) ?_
    refine o_move rfl (by decide) ?_
    refine o_move rfl (by decide) ?_
    refine o_move rfl (by decide) ?_
    refine o_build rfl rfl (by decide) ?_
    refine o_buildSlicep rfl (by rfl) (by rfl) (by rfl) (by rfl) (by decide) ?_
    refine o_appendv rfl rfl (Src.v _ _) (okB_one rfl) (by simp) (by rw [chunk_length]; decide) (by simp [chunk_length]) (by decide) fun x15 c16 hc17 => ?_
    refine o_assign rfl (by decide) ?_
    refine o_nil ?_
    refine h_ret ?_
    have hq : owedM [] a b m = [] ++ [⟨a, b, m⟩] := (by unfold owedM; simp only [decide_eq_true_eq, decide_eq_false_iff_not] at *; first | rw [if_pos (by omega)] | rw [if_neg (by omega), if_pos (by omega)] | rw [if_neg (by omega), if_neg (by omega)])
    exact retS1 [_] rfl (.refl _) ⟨_, rfl, by rw [hq]; exact .inr ⟨x15, c16, (by simpa [chunk_length] using hc17), (by simp [chunk_length]), (by simp [encD, chunk])⟩⟩
  ·
    refine h_seq ?_
    refine h_region ?_
    refine o_move rfl (by decide) ?_
    refine o_cmp rfl rfl rfl (by decide) ?_
    refine o_assign rfl (by decide) ?_
    refine o_nil ?_
    refine h_cond rfl (fun c19 => ?_) (fun c19 => ?_)
    ·
      refine h_seq ?_
      refine h_region ?_
      refine o_move rfl (by decide) ?_
      refine o_move rfl (by decide) ?_
      refine o_move rfl (by decide) ?_
      refine o_move rfl (by decide) ?_
      refine o_neg rfl (by unfold in64; (try dsimp only); omega) (by decide) ?_
      refine o_build rfl rfl (by decide) ?_
      refine o_buildSlicep rfl (by rfl) (by rfl) (by rfl) (by rfl) (by decide) ?_
      refine o_appendv rfl rfl (Src.v _ _) (okB_one rfl) (by simp) (by rw [chunk_length]; decide) (by simp [chunk_length]) (by decide) fun x20 c21 hc22 => ?_
      refine o_assign rfl (by decide) ?_
      refine o_nil ?_
      refine h_ret ?_
      have hq : owedM [] a b m = [] ++ [⟨b, a, -m⟩] := (by unfold owedM; simp only [decide_eq_true_eq, decide_eq_false_iff_not] at *; first | rw [if_pos (by omega)] | rw [if_neg (by omega), if_pos (by omega)] | rw [if_neg (by omega), if_neg (by omega)])
      exact retS1 [_] rfl (.refl _) ⟨_, rfl, by rw [hq]; exact .inr ⟨x20, c21, (by simpa [chunk_length] using hc22), (by simp [chunk_length]), (by simp [encD, chunk])⟩⟩
    ·
      refine h_skip ?_
      refine h_seq ?_
      refine h_region ?_
      refine o_move rfl (by decide) ?_
      refine o_assign rfl (by decide) ?_
      refine o_nil ?_
      refine h_ret ?_
      have hq : owedM [] a b m = [] := (by unfold owedM; simp only [decide_eq_true_eq, decide_eq_false_iff_not] at *; first | rw [if_pos (by omega)] | rw [if_neg (by omega), if_pos (by omega)] | rw [if_neg (by omega), if_neg (by omega)])
      exact retS1 [] rfl (List.nil_sublist _) ⟨_, rfl, by rw [hq]; exact .inl ⟨rfl, rfl, rfl⟩⟩

theorem owed_os (l : List Dbt) (hlen : l.length ≤ 2000000000) (bb cap : Nat) (hc : l.length ≤ cap) (a b m : Int) (hm : -1000000000000 ≤ m ∧ m ≤ 1000000000000) : Fc Try.prog 49 [.os bb 3 0 l.length cap, I a, I b, I m] [(bb, .arr 64 3 (l.map encD) cap)] (fun r h' => DebtsAt (owedM l a b m) r h') := by
  refine fnE_intro (N := 31) Try.func49 rfl rfl rfl ?_
  intro X
  refine h_seq ?_
  refine h_region ?_
  refine o_assign rfl (by decide) ?_
  refine o_nil ?_
  refine h_seq ?_
  refine h_block ?_
  refine h_seq ?_
  refine h_region ?_
  refine o_move rfl (by decide) ?_
  refine o_cmp rfl rfl rfl (by decide) ?_
  refine o_assign rfl (by decide) ?_
  refine o_nil ?_
  refine h_cond rfl (fun c24 => ?_) (fun c24 => ?_)
  ·
    refine h_seq ?_
    refine h_region ?_
    refine o_move rfl (by decide) ?_
    refine o_move rfl (by decide) ?_
    refine o_move rfl (by decide) ?_
    refine o_move rfl (by decide) ?_
    refine o_build rfl rfl (by decide) ?_
    refine o_buildSlicep rfl (by rfl) (by rfl) (by rfl) (by rfl) (by decide) ?_
    refine o_append 0 rfl rfl rfl (Src.v _ _) (okB_one rfl) (by simp) (by simp [chunk_length]; omega) (by decide) fun x25 c26 hc27 => ?_
    refine o_assign rfl (by decide) ?_
    refine o_nil ?_
    refine h_ret ?_
    have hq : owedM l a b m = l ++ [⟨a, b, m⟩] := (by unfold owedM; simp only [decide_eq_true_eq, decide_eq_false_iff_not] at *; first | rw [if_pos (by omega)] | rw [if_neg (by omega), if_pos (by omega)] | rw [if_neg (by omega), if_neg (by omega)])
    exact retS1 [_] rfl (.refl _) ⟨_, rfl, by rw [hq]; exact .inr ⟨x25, c26, (by simpa [chunk_length] using hc27), (by simp [chunk_length]), (by simp [encD, chunk])⟩⟩
  ·
    refine h_seq ?_
    refine h_region ?_
    refine o_move rfl (by decide) ?_
    refine o_cmp rfl rfl rfl (by decide) ?_
    refine o_assign rfl (by decide) ?_
    refine o_nil ?_
    refine h_cond rfl (fun c29 => ?_) (fun c29 => ?_)
    ·
      refine h_seq ?_
      refine h_region ?_
      refine o_move rfl (by decide) ?_
      refine o_move rfl (by decide) ?_
      refine o_move rfl (by decide) ?_
      refine o_move rfl (by decide) ?_
      refine o_neg rfl (by unfold in64; (try dsimp only); omega) (by decide) ?_
      refine o_build rfl rfl (by decide) ?_
      refine o_buildSlicep rfl (by rfl) (by rfl) (by rfl) (by rfl) (by decide) ?_
      refine o_append 0 rfl rfl rfl (Src.v _ _) (okB_one rfl) (by simp) (by simp [chunk_length]; omega) (by decide) fun x30 c31 hc32 => ?_
      refine o_assign rfl (by decide) ?_
      refine o_nil ?_
      refine h_ret ?_
      have hq : owedM l a b m = l ++ [⟨b, a, -m⟩] := (by unfold owedM; simp only [decide_eq_true_eq, decide_eq_false_iff_not] at *; first | rw [if_pos (by omega)] | rw [if_neg (by omega), if_pos (by omega)] | rw [if_neg (by omega), if_neg (by omega)])
      exact retS1 [_] rfl (.refl _) ⟨_, rfl, by rw [hq]; exact .inr ⟨x30, c31, (by simpa [chunk_length] using hc32), (by simp [chunk_length]), (by simp [encD, chunk])⟩⟩
    ·
      refine h_skip ?_
      refine h_seq ?_
      refine h_region ?_
      refine o_move rfl (by decide) ?_
      refine o_assign rfl (by decide) ?_
      refine o_nil ?_
      refine h_ret ?_
      have hq : owedM l a b m = l := (by unfold owedM; simp only [decide_eq_true_eq, decide_eq_false_iff_not] at *; first | rw [if_pos (by omega)] | rw [if_neg (by omega), if_pos (by omega)] | rw [if_neg (by omega), if_neg (by omega)])
      exact retS1 [_] rfl (.refl _) ⟨_, rfl, by rw [hq]; exact .inr ⟨bb, cap, hc, rfl, rfl⟩⟩

theorem owed_spec (l : List Dbt) (hlen : l.length ≤ 2000000000) (v : AV) (h : AHeap) (hd : DebtsAt l v h) (a b m : Int) (hm : -1000000000000 ≤ m ∧ m ≤ 1000000000000) : Fc Try.prog 49 [v, I a, I b, I m] h (fun r h' => DebtsAt (owedM l a b m) r h') := by
  rcases hd with ⟨hl, rfl, rfl⟩ | ⟨bb, cap, hc, rfl, rfl⟩
  · exact (hl ▸ owed_nil a b m hm)
  · exact owed_os l hlen bb cap hc a b m hm

theorem ren1_spec (d : Dbt) : Fn1 Try.prog 71 [.agg [I d.fr, I d.to, I d.m]] (B (decide (d.fr = d.to))) := by
  refine fnE_intro (N := 8) Try.func71 rfl rfl rfl ?_
  intro X
  refine h_seq ?_
  refine h_region ?_
  refine o_box rfl rfl (by decide) fun x33 => ?_
  refine o_assign rfl (by decide) ?_
  refine o_nil ?_
  refine h_seq ?_
  refine h_region ?_
  refine o_faddr rfl rfl (by decide) (by decide) ?_
  refine o_load 0 rfl rfl rfl rfl (by decide) ?_
  refine o_faddr rfl rfl (by decide) (by decide) ?_
  refine o_load 0 rfl rfl rfl rfl (by decide) ?_
  refine o_cmp rfl rfl rfl (by decide) ?_
  refine o_assign rfl (by decide) ?_
  refine o_nil ?_
  refine h_ret ?_
  exact ret1' rfl rfl

end Go.Proofs.Ytbnonekkjjcdgaa
/- The walks of slices.DeleteFunc of debts, merge.renamed. -/
namespace Go.Proofs.Ytbnonekkjjcdgaa
open Go Go.RowKit Go.Shelf Hp
set_option maxRecDepth 10000
set_option maxHeartbeats 1000000
set_option linter.unusedVariables false
set_option linter.unusedSimpArgs false
attribute [local irreducible] WP WPs FnX IterX YdX RetP PanP Ch Back Join
def keepD (d : Dbt) : Bool := !decide (d.fr = d.to)
abbrev delP (l : List Dbt) (k : Nat) : Bool := decide ((l.getD k dD).fr = (l.getD k dD).to)
theorem del_hp (l : List Dbt) : ∀ k (hk : k < l.length), Fc Try.prog 71 ([.agg [I l[k].fr, I l[k].to, I l[k].m]] ++ []) [] (fun r h' => r = B (delP l k) ∧ h' = []) := fun k hk => by
  have e : l.getD k dD = l[k] := by simp [hk]
  simp only [delP, e]
  exact ren1_spec l[k]
theorem index_spec (l : List Dbt) (hlen : l.length ≤ 1000000000) (f : Bool) : Fn1 Try.prog 69 [V (l.map encD) f, .fn 71 []] (I (idxOf (delP l) l.length)) :=
  dbtIndex l hlen f 71 [] (fun _ => []) (delP l) (del_hp l)
theorem filter_none {l : List Dbt} (h : ∀ k, k < l.length → delP l k = false) : l.filter keepD = l := by
  rw [List.filter_eq_self]
  intro d hd
  obtain ⟨k, hk, rfl⟩ := List.getElem_of_mem hd
  have := h k hk
  simp only [delP] at this
  rw [show l.getD k dD = l[k] from by simp [hk]] at this
  simp only [keepD, this]; rfl
/-- Rounds of DeleteFunc. -/
structure DelI (l : List Dbt) where
  i : Nat
  j : Nat
  cur : List Dbt
  hij : i < j
  hj : j ≤ l.length
  hn : cur.length = l.length
  ht : cur.take i = (l.take j).filter keepD
  hd : cur.drop j = l.drop j
theorem DelI.at {l : List Dbt} (s : DelI l) (h : s.j < l.length) : s.cur.getD s.j dD = l.getD s.j dD := by
  have := congrArg (fun x => x[0]?) s.hd
  simp only [List.getElem?_drop, Nat.add_zero] at this
  simp [this]
theorem take_succD {l : List Dbt} {j : Nat} (h : j < l.length) : l.take (j + 1) = l.take j ++ [l.getD j dD] := by
  rw [List.take_add_one, List.getElem?_eq_getElem h]; simp [h]
def DelI.keep {l : List Dbt} (s : DelI l) (h : s.j < l.length) (hk : keepD (l.getD s.j dD) = true) : DelI l where
  i := s.i + 1
  j := s.j + 1
  cur := s.cur.set s.i (l.getD s.j dD)
  hij := by have := s.hij; omega
  hj := h
  hn := by simp [s.hn]
  ht := by
    have hi : s.i < s.cur.length := by have := s.hij; have := s.hn; omega
    rw [take_succD h, List.filter_append, ← s.ht, List.take_add_one, List.take_set_of_le (Nat.le_refl _), List.getElem?_set_self hi]
    have : [l.getD s.j dD].filter keepD = [l.getD s.j dD] := by rw [List.filter_cons, if_pos hk]; rfl
    rw [this]; rfl
  hd := by
    have := congrArg List.tail s.hd
    simp only [List.tail_drop] at this
    rw [List.drop_set_of_lt (by have := s.hij; omega)]
    exact this
def DelI.drop {l : List Dbt} (s : DelI l) (h : s.j < l.length) (hk : keepD (l.getD s.j dD) = false) : DelI l where
  i := s.i
  j := s.j + 1
  cur := s.cur
  hij := by have := s.hij; omega
  hj := h
  hn := s.hn
  ht := by
    rw [take_succD h, List.filter_append, ← s.ht]
    have : [l.getD s.j dD].filter keepD = [] := by rw [List.filter_cons, if_neg (by rw [hk]; simp)]; rfl
    rw [this, List.append_nil]
  hd := by
    have := congrArg List.tail s.hd
    simpa only [List.tail_drop] using this
def DelI.init {l : List Dbt} {k : Nat} (h : k < l.length) (hp : delP l k = true) (hb : ∀ j, j < k → delP l j = false) : DelI l where
  i := k
  j := k + 1
  cur := l
  hij := by omega
  hj := h
  hn := rfl
  ht := by
    rw [take_succD h, List.filter_append]
    have e1 : (l.take k).filter keepD = l.take k := filter_none fun j hj => by
      have hjk : j < k := by simp at hj; omega
      have := hb j hjk
      simp only [delP] at this ⊢
      rw [show (l.take k).getD j dD = l.getD j dD from by simp [List.getElem?_take_of_lt hjk]]; exact this
    have e2 : [l.getD k dD].filter keepD = [] := by rw [List.filter_cons, if_neg (by simpa [keepD] using hp)]; rfl
    rw [e1, e2, List.append_nil]
  hd := rfl

theorem delete_nil : Fc Try.prog 70 [V [] true, .fn 71 []] [] (fun r h' => DebtsAt [] r h') := by
  refine fnE_intro (N := 42) Try.func70 rfl rfl rfl ?_
  intro X
  refine h_seq ?_
  refine h_region ?_
  refine o_assign rfl (by decide) ?_
  refine o_nil ?_
  refine h_seq ?_
  refine h_region ?_
  refine o_move rfl (by decide) ?_
  refine o_move rfl (by decide) ?_
  refine o_call1 rfl rfl EntC.out (by decide) (index_spec [] (by simp) true) ?_
  refine o_assign rfl (by decide) ?_
  refine o_nil ?_
  refine h_seq ?_
  refine h_seq ?_
  refine h_region ?_
  refine o_move rfl (by decide) ?_
  refine o_cmp rfl rfl rfl (by decide) ?_
  refine o_nil ?_
  refine h_condt rfl (by decide) ?_
  refine h_seq ?_
  refine h_region ?_
  refine o_move rfl (by decide) ?_
  refine o_assign rfl (by decide) ?_
  refine o_nil ?_
  refine h_ret ?_
  exact retS1 [] rfl (List.nil_sublist _) ⟨_, rfl, .inl ⟨rfl, rfl, rfl⟩⟩

theorem idx_cases (p : Nat → Bool) (n : Nat) : (idxOf p n = -1 ∧ ∀ k, k < n → p k = false) ∨ ∃ k, k < n ∧ idxOf p n = k ∧ p k = true ∧ ∀ j, j < k → p j = false := by
  cases hf : fst? p n 0 with
  | none =>
    left
    refine ⟨by simp [idxOf, hf], fun k hk => ?_⟩
    by_cases hp : ∃ j, j < n ∧ p j = true
    · exfalso
      obtain ⟨j, hj, hpj⟩ := hp
      obtain ⟨m, ⟨hm1, hm2⟩, hm3⟩ := exists_least (p := fun j => j < n ∧ p j = true) j ⟨hj, hpj⟩
      have := fst_some n 0 m (Nat.zero_le _) (by omega) hm2 (fun q _ hq => by
        cases hpq : p q with
        | false => rfl
        | true => have := hm3 q ⟨by omega, hpq⟩; omega)
      rw [hf] at this; cases this
    · cases hpk : p k with
      | false => rfl
      | true => exact absurd ⟨k, hk, hpk⟩ hp
  | some k =>
    right
    obtain ⟨_, h2, h3, h4⟩ := fst_inv n 0 k hf
    exact ⟨k, by omega, by simp [idxOf, hf], h3, fun j hj => h4 j (Nat.zero_le _) hj⟩

theorem delete_os (l : List Dbt) (hlen : l.length ≤ 1000000000) (bb cap : Nat) (hc : l.length ≤ cap) : Fc Try.prog 70 [.os bb 3 0 l.length cap, .fn 71 []] [(bb, .arr 64 3 (l.map encD) cap)] (fun r h' => DebtsAt (l.filter keepD) r h') := by
  refine fnE_intro (N := 42) Try.func70 rfl rfl rfl ?_
  intro X
  refine h_seq ?_
  refine h_region ?_
  refine o_assign rfl (by decide) ?_
  refine o_nil ?_
  refine h_seq ?_
  refine h_region ?_
  refine o_move rfl (by decide) ?_
  refine o_move rfl (by decide) ?_
  refine o_callL 0 rfl rfl rfl EntC.out (by decide) (.cons (.os _ _ (by simp) hc) (.cons (.refl _) .nil)) (index_spec l hlen false) ?_
  rcases idx_cases (delP l) l.length with ⟨hx, hb⟩ | ⟨k, hk, hx, hpk, hb⟩
  ·
    rw [hx]
    refine o_assign rfl (by decide) ?_
    refine o_nil ?_
    refine h_seq ?_
    refine h_seq ?_
    refine h_region ?_
    refine o_move rfl (by decide) ?_
    refine o_cmp rfl rfl rfl (by decide) ?_
    refine o_nil ?_
    refine h_condt rfl (by simp) ?_
    refine h_seq ?_
    refine h_region ?_
    refine o_move rfl (by decide) ?_
    refine o_assign rfl (by decide) ?_
    refine o_nil ?_
    refine h_ret ?_
    have hnone : l.filter keepD = l := filter_none fun k hk => hb k hk
    exact retS1 [_] rfl (.refl _) ⟨_, rfl, by rw [hnone]; exact .inr ⟨bb, cap, hc, rfl, rfl⟩⟩
  ·
    rw [hx]
    refine o_assign rfl (by decide) ?_
    refine o_nil ?_
    refine h_seq ?_
    refine h_seq ?_
    refine h_region ?_
    refine o_move rfl (by decide) ?_
    refine o_cmp rfl rfl rfl (by decide) ?_
    refine o_nil ?_
    refine h_condf rfl (by simp <;> omega) ?_
    refine h_skip ?_
    refine h_seq ?_
    refine h_seq ?_
    refine h_region ?_
    refine o_move rfl (by decide) ?_
    refine o_add rfl rfl (by unfold in64; (try dsimp only); omega) (by decide) ?_
    refine o_assign rfl (by decide) ?_
    refine o_nil ?_
    refine h_block ?_
    refine h_famS (ι := DelI l) (fun i => [(0, .os bb 3 0 l.length cap), (1, .fn 71 []), (5, I (i.i : Nat)), (6, I (i.j : Nat))]) (fun i => (bb, .arr 64 3 (i.cur.map encD) cap) :: []) (fun i => l.length - i.j) (DelI.init hk hpk hb) (.cons_cons _ (.refl _)) (subT.cons rfl (subT.cons rfl (subT.cons rfl (subT.cons rfl subT.nil)))) ?_
    rintro s
    have hij := s.hij
    have hjl := s.hj
    have hcn := s.hn
    by_cases hlt : s.j < l.length
    ·
      have hat := s.at hlt
      refine h_seq ?_
      refine h_seq ?_
      refine h_region ?_
      refine o_move rfl (by decide) ?_
      refine o_move rfl (by decide) ?_
      refine o_leno rfl (by decide) ?_
      refine o_cmp rfl rfl rfl (by decide) ?_
      refine o_nil ?_
      refine h_condt rfl (by simp; omega) ?_
      refine h_skip ?_
      refine h_seq ?_
      refine h_block ?_
      refine h_seq ?_
      refine h_region ?_
      refine o_move rfl (by decide) ?_
      refine o_move rfl (by decide) ?_
      refine o_idxo rfl rfl (by omega) (by omega) (by decide) ?_
      refine o_loade 0 rfl rfl (eltD (by omega)) rfl rfl (by decide) ?_
      refine o_alloc (by decide) fun x5 => ?_
      refine o_store 0 rfl rfl rfl rfl rfl rfl ?_
      refine o_nil ?_
      refine h_seq ?_
      refine h_region ?_
      refine o_move rfl (by decide) ?_
      refine o_load 0 rfl rfl rfl rfl (by decide) ?_
      refine o_call1 rfl rfl EntC.out (by decide) (ren1_spec (s.cur.getD s.j dD)) ?_
      refine o_not rfl (by decide) ?_
      refine o_nil ?_
      refine h_cond rfl (fun c7 => ?_) (fun c7 => ?_)
      ·
        refine h_seq ?_
        refine h_region ?_
        refine o_move rfl (by decide) ?_
        refine o_move rfl (by decide) ?_
        refine o_load 0 rfl rfl rfl rfl (by decide) ?_
        refine o_idxo rfl rfl (by omega) (by omega) (by decide) ?_
        refine o_storee 1 rfl rfl (eltD (by simp; omega)) rfl rfl rfl rfl (by simp [encD]) ?_
        refine o_nil ?_
        refine h_heap (congrArg (fun z => [_, (bb, OB.arr 64 3 z cap)]) (setD0 (n := s.i) (v := l.getD s.j dD) (by rw [← hat]; rfl))) ?_
        refine h_region ?_
        refine o_move rfl (by decide) ?_
        refine o_add rfl rfl (by unfold in64; (try dsimp only); omega) (by decide) ?_
        refine o_assign rfl (by decide) ?_
        refine o_nil ?_
        refine h_region ?_
        refine o_move rfl (by decide) ?_
        refine o_add rfl rfl (by unfold in64; (try dsimp only); omega) (by decide) ?_
        refine o_assign rfl (by decide) ?_
        refine o_nil ?_
        have hk : keepD (l.getD s.j dD) = true := by rw [← hat]; simp only [keepD]; have := (not_of c7); simp_all
        refine back rfl (s.keep hlt hk) (by simp only [DelI.keep, DelI.drop]; omega) (.cons _ (.cons_cons _ (.refl _))) (subT.cons rfl (subT.cons rfl (subT.cons rfl (subT.cons rfl subT.nil))))
      ·
        refine h_skip ?_
        refine h_region ?_
        refine o_move rfl (by decide) ?_
        refine o_add rfl rfl (by unfold in64; (try dsimp only); omega) (by decide) ?_
        refine o_assign rfl (by decide) ?_
        refine o_nil ?_
        have hk : keepD (l.getD s.j dD) = false := by rw [← hat]; simp only [keepD]; have := (not_of c7); simp_all
        refine back rfl (s.drop hlt hk) (by simp only [DelI.keep, DelI.drop]; omega) (.cons _ (.cons_cons _ (.refl _))) (subT.cons rfl (subT.cons rfl (subT.cons rfl (subT.cons rfl subT.nil))))
    ·
      refine h_seq ?_
      refine h_seq ?_
      refine h_region ?_
      refine o_move rfl (by decide) ?_
      refine o_move rfl (by decide) ?_
      refine o_leno rfl (by decide) ?_
      refine o_cmp rfl rfl rfl (by decide) ?_
      refine o_nil ?_
      refine h_condf rfl (by simp; omega) ?_
      refine h_exit ?_
      refine h_seq ?_
      refine h_region ?_
      refine o_move rfl (by decide) ?_
      refine o_move rfl (by decide) ?_
      refine o_tailo rfl rfl (by omega) (by simp; omega) (by omega) (by decide) ?_
      refine o_clearo 0 rfl rfl rfl (by simp; omega) (by simp; omega) (by simp; omega) ?_
      refine o_nil ?_
      refine h_seq ?_
      refine h_region ?_
      refine o_move rfl (by decide) ?_
      refine o_move rfl (by decide) ?_
      refine o_fronto rfl rfl (by omega) (by simp; omega) (by omega) (by decide) ?_
      refine o_assign rfl (by decide) ?_
      refine o_nil ?_
      refine h_ret ?_
      obtain hje : s.j = l.length := by omega
      have hfin : s.cur.take s.i = l.filter keepD := by rw [s.ht, hje, List.take_length]
      have hil : (l.filter keepD).length = s.i := by rw [← hfin, List.length_take]; omega
      exact retS1 [_] rfl (.refl _) ⟨_, rfl, .inr ⟨bb, cap, by omega, by rw [hil]; rfl, by rw [← hfin, List.map_take]; simp⟩⟩

end Go.Proofs.Ytbnonekkjjcdgaa
/- The walk of merge.renamed. -/
namespace Go.Proofs.Ytbnonekkjjcdgaa
open Go Go.RowKit Go.Shelf Hp
set_option maxRecDepth 10000
set_option maxHeartbeats 1000000
set_option linter.unusedVariables false
set_option linter.unusedSimpArgs false
attribute [local irreducible] WP WPs FnX IterX YdX RetP PanP Ch Back Join
def renD (a b : Int) (d : Dbt) : Dbt := ⟨if d.fr = a then b else d.fr, if d.to = a then b else d.to, d.m⟩
def renamedM (l : List Dbt) (a b : Int) : List Dbt := (l.map (renD a b)).filter keepD
theorem delete_os' (l : List Dbt) (hlen : l.length ≤ 1000000000) (bb cap n : Nat) (hn : n = l.length) (hc : n ≤ cap) : Fc Try.prog 70 [.os bb 3 0 n cap, .fn 71 []] [(bb, .arr 64 3 (l.map encD) cap)] (fun r h' => DebtsAt (l.filter keepD) r h') := by
  subst hn; exact delete_os l hlen bb cap hc
structure RenI (l : List Dbt) (a b : Int) where
  k : Nat
  cur : List Dbt
  hk : k ≤ l.length
  hn : cur.length = l.length
  ht : cur.take k = (l.take k).map (renD a b)
  hd : cur.drop k = l.drop k
theorem RenI.at {l : List Dbt} {a b : Int} (s : RenI l a b) (h : s.k < l.length) : s.cur.getD s.k dD = l.getD s.k dD := by
  have := congrArg (fun x => x[0]?) s.hd
  simp only [List.getElem?_drop, Nat.add_zero] at this
  simp [this]
def RenI.next {l : List Dbt} {a b : Int} (s : RenI l a b) (h : s.k < l.length) (cur' : List Dbt) (hc : cur' = s.cur.set s.k (renD a b (l.getD s.k dD))) : RenI l a b where
  k := s.k + 1
  cur := cur'
  hk := h
  hn := by rw [hc]; simp [s.hn]
  ht := by
    have hi : s.k < s.cur.length := by have := s.hn; omega
    rw [hc, take_succD h, List.map_append, ← s.ht, List.take_add_one, List.take_set_of_le (Nat.le_refl _), List.getElem?_set_self hi]; rfl
  hd := by
    have := congrArg List.tail s.hd
    simp only [List.tail_drop] at this
    rw [hc, List.drop_set_of_lt (by omega)]
    exact this
theorem set_getD {l : List Dbt} {k : Nat} : l.set k (l.getD k dD) = l := by
  by_cases h : k < l.length
  · simp [h]
  · rw [List.set_eq_of_length_le (by omega)]

theorem renamed_nil (a b : Int) : Fc Try.prog 48 [V [] true, I a, I b] [] (fun r h' => DebtsAt [] r h') := by
  refine fnE_intro (N := 37) Try.func48 rfl rfl rfl ?_
  intro X
  refine h_seq ?_
  refine h_region ?_
  refine o_assign rfl (by decide) ?_
  refine o_nil ?_
  refine h_seq ?_
  refine h_seq ?_
  refine h_region ?_
  refine o_move rfl (by decide) ?_
  refine o_len rfl (by decide) ?_
  refine o_move rfl (by decide) ?_
  refine o_nil ?_
  refine h_block ?_
  refine h_famS (ι := Unit) (fun i => [(0, V [] true), (9, V [] true), (1, I a), (2, I b), (10, I (0 : Nat)), (11, I (0 : Nat))]) (fun i => []) (fun i => 0) () (.refl _) (subT.cons rfl (subT.cons rfl (subT.cons rfl (subT.cons rfl (subT.cons rfl (subT.cons rfl subT.nil)))))) ?_
  rintro ⟨⟩
  refine h_seq ?_
  refine h_region ?_
  refine o_cmp rfl rfl rfl (by decide) ?_
  refine o_nil ?_
  refine h_seq ?_
  refine h_condf rfl (by decide) ?_
  refine h_exit ?_
  refine h_seq ?_
  refine h_region ?_
  refine o_move rfl (by decide) ?_
  refine o_callA rfl rfl EntC.out (by decide) delete_nil fun v h' hr => ?_
  refine o_assign rfl (by decide) ?_
  refine o_nil ?_
  refine h_ret ?_
  exact retK1 rfl ⟨_, rfl, hr⟩

theorem renamed_os (l : List Dbt) (hlen : l.length ≤ 1000000000) (bb cap : Nat) (hc : l.length ≤ cap) (a b : Int) : Fc Try.prog 48 [.os bb 3 0 l.length cap, I a, I b] [(bb, .arr 64 3 (l.map encD) cap)] (fun r h' => DebtsAt (renamedM l a b) r h') := by
  refine fnE_intro (N := 37) Try.func48 rfl rfl rfl ?_
  intro X
  refine h_seq ?_
  refine h_region ?_
  refine o_assign rfl (by decide) ?_
  refine o_nil ?_
  refine h_seq ?_
  refine h_seq ?_
  refine h_region ?_
  refine o_move rfl (by decide) ?_
  refine o_leno rfl (by decide) ?_
  refine o_move rfl (by decide) ?_
  refine o_nil ?_
  refine h_block ?_
  refine h_famS (ι := RenI l a b) (fun i => [(0, .os bb 3 0 l.length cap), (9, .os bb 3 0 l.length cap), (1, I a), (2, I b), (10, I (l.length : Nat)), (11, I (i.k : Nat))]) (fun i => (bb, .arr 64 3 (i.cur.map encD) cap) :: []) (fun i => l.length - i.k) ⟨0, l, Nat.zero_le _, rfl, rfl, rfl⟩ (.cons_cons _ (.refl _)) (subT.cons rfl (subT.cons rfl (subT.cons rfl (subT.cons rfl (subT.cons rfl (subT.cons rfl subT.nil)))))) ?_
  rintro ⟨k, cur, hk, hn, ht, hd⟩
  dsimp only
  by_cases hlt : k < l.length
  ·
    have hat : cur.getD k dD = l.getD k dD := (RenI.mk k cur hk hn ht hd).at hlt
    refine h_seq ?_
    refine h_region ?_
    refine o_cmp rfl rfl rfl (by decide) ?_
    refine o_nil ?_
    refine h_seq ?_
    refine h_condt rfl (by simp; omega) ?_
    refine h_skip ?_
    refine h_seq ?_
    refine h_block ?_
    refine h_seq ?_
    refine h_region ?_
    refine o_move rfl (by decide) ?_
    refine o_idxo rfl rfl (by omega) (by omega) (by decide) ?_
    refine o_loade 0 rfl rfl (eltD (by first | omega | (simp; omega))) rfl rfl (by decide) ?_
    refine o_alloc (by decide) fun x3 => ?_
    refine o_assign rfl (by decide) ?_
    refine o_store 0 rfl rfl rfl rfl rfl rfl ?_
    refine o_nil ?_
    refine h_seq ?_
    refine h_seq ?_
    refine h_region ?_
    refine o_faddr rfl rfl (by decide) (by decide) ?_
    refine o_load 0 rfl rfl rfl rfl (by decide) ?_
    refine o_move rfl (by decide) ?_
    refine o_cmp rfl rfl rfl (by decide) ?_
    refine o_nil ?_
    refine h_cond rfl (fun c5 => ?_) (fun c5 => ?_)
    ·
      refine h_region ?_
      refine o_move rfl (by decide) ?_
      refine o_move rfl (by decide) ?_
      refine o_move rfl (by decide) ?_
      refine o_idxo rfl rfl (by omega) (by omega) (by decide) ?_
      refine o_faddre rfl rfl (by decide) (by decide) ?_
      refine o_storee 1 rfl rfl (eltD (by first | omega | (simp; omega))) rfl rfl rfl rfl (by simp [encD]) ?_
      refine o_nil ?_
      refine h_heap (congrArg (fun z => [_, (bb, OB.arr 64 3 z cap)]) (setD0 (n := k) (l := cur) (v := ⟨b, (cur.getD k dD).to, (cur.getD k dD).m⟩) rfl)) ?_
      refine h_seq ?_
      refine h_region ?_
      refine o_faddr rfl rfl (by decide) (by decide) ?_
      refine o_load 0 rfl rfl rfl rfl (by decide) ?_
      refine o_move rfl (by decide) ?_
      refine o_cmp rfl rfl rfl (by decide) ?_
      refine o_nil ?_
      refine h_cond rfl (fun c7 => ?_) (fun c7 => ?_)
      ·
        refine h_region ?_
        refine o_move rfl (by decide) ?_
        refine o_move rfl (by decide) ?_
        refine o_move rfl (by decide) ?_
        refine o_idxo rfl rfl (by omega) (by omega) (by decide) ?_
        refine o_faddre rfl rfl (by decide) (by decide) ?_
        refine o_storee 1 rfl rfl (eltD (by first | omega | (simp; omega))) rfl rfl rfl rfl (by simp [encD]) ?_
        refine o_nil ?_
        refine h_heap (congrArg (fun z => [_, (bb, OB.arr 64 3 z cap)]) (setD0 (n := k) (l := (cur.set k ⟨b, (cur.getD k dD).to, (cur.getD k dD).m⟩)) (v := ⟨((cur.set k ⟨b, (cur.getD k dD).to, (cur.getD k dD).m⟩).getD k dD).fr, b, ((cur.set k ⟨b, (cur.getD k dD).to, (cur.getD k dD).m⟩).getD k dD).m⟩) rfl)) ?_
        refine h_region ?_
        refine o_add rfl rfl (by unfold in64; (try dsimp only); omega) (by decide) ?_
        refine o_move rfl (by decide) ?_
        refine o_nil ?_
        have h1 := c5
        have h2 := c7
        simp only [decide_eq_true_eq, decide_eq_false_iff_not, Int.toNat_natCast] at h1 h2
        refine back rfl ((RenI.mk k cur hk hn ht hd).next hlt ((cur.set k ⟨b, (cur.getD k dD).to, (cur.getD k dD).m⟩).set k ⟨((cur.set k ⟨b, (cur.getD k dD).to, (cur.getD k dD).m⟩).getD k dD).fr, b, ((cur.set k ⟨b, (cur.getD k dD).to, (cur.getD k dD).m⟩).getD k dD).m⟩) (by rw [← hat, List.set_set]; congr 1; have hi : k < cur.length := (by omega); simp only [List.getD_eq_getElem?_getD] at h1 h2; simp only [renD, if_pos h1, if_pos h2, List.getD_eq_getElem?_getD, List.getElem?_set_self hi, Option.getD_some])) (by simp only [RenI.next]; omega) (.cons _ (.cons_cons _ (.refl _))) (subT.cons rfl (subT.cons rfl (subT.cons rfl (subT.cons rfl (subT.cons rfl (subT.cons rfl subT.nil))))))
      ·
        refine h_skip ?_
        refine h_region ?_
        refine o_add rfl rfl (by unfold in64; (try dsimp only); omega) (by decide) ?_
        refine o_move rfl (by decide) ?_
        refine o_nil ?_
        have h1 := c5
        have h2 := c7
        simp only [decide_eq_true_eq, decide_eq_false_iff_not, Int.toNat_natCast] at h1 h2
        refine back rfl ((RenI.mk k cur hk hn ht hd).next hlt (cur.set k ⟨b, (cur.getD k dD).to, (cur.getD k dD).m⟩) (by rw [← hat]; simp only [renD, if_pos h1, if_neg h2])) (by simp only [RenI.next]; omega) (.cons _ (.cons_cons _ (.refl _))) (subT.cons rfl (subT.cons rfl (subT.cons rfl (subT.cons rfl (subT.cons rfl (subT.cons rfl subT.nil))))))
    ·
      refine h_skip ?_
      refine h_seq ?_
      refine h_region ?_
      refine o_faddr rfl rfl (by decide) (by decide) ?_
      refine o_load 0 rfl rfl rfl rfl (by decide) ?_
      refine o_move rfl (by decide) ?_
      refine o_cmp rfl rfl rfl (by decide) ?_
      refine o_nil ?_
      refine h_cond rfl (fun c9 => ?_) (fun c9 => ?_)
      ·
        refine h_region ?_
        refine o_move rfl (by decide) ?_
        refine o_move rfl (by decide) ?_
        refine o_move rfl (by decide) ?_
        refine o_idxo rfl rfl (by omega) (by omega) (by decide) ?_
        refine o_faddre rfl rfl (by decide) (by decide) ?_
        refine o_storee 1 rfl rfl (eltD (by first | omega | (simp; omega))) rfl rfl rfl rfl (by simp [encD]) ?_
        refine o_nil ?_
        refine h_heap (congrArg (fun z => [_, (bb, OB.arr 64 3 z cap)]) (setD0 (n := k) (l := cur) (v := ⟨(cur.getD k dD).fr, b, (cur.getD k dD).m⟩) rfl)) ?_
        refine h_region ?_
        refine o_add rfl rfl (by unfold in64; (try dsimp only); omega) (by decide) ?_
        refine o_move rfl (by decide) ?_
        refine o_nil ?_
        have h1 := c5
        have h2 := c9
        simp only [decide_eq_true_eq, decide_eq_false_iff_not, Int.toNat_natCast] at h1 h2
        refine back rfl ((RenI.mk k cur hk hn ht hd).next hlt (cur.set k ⟨(cur.getD k dD).fr, b, (cur.getD k dD).m⟩) (by rw [← hat]; simp only [renD, if_neg h1, if_pos h2])) (by simp only [RenI.next]; omega) (.cons _ (.cons_cons _ (.refl _))) (subT.cons rfl (subT.cons rfl (subT.cons rfl (subT.cons rfl (subT.cons rfl (subT.cons rfl subT.nil))))))
      ·
        refine h_skip ?_
        refine h_region ?_
        refine o_add rfl rfl (by unfold in64; (try dsimp only); omega) (by decide) ?_
        refine o_move rfl (by decide) ?_
        refine o_nil ?_
        have h1 := c5
        have h2 := c9
        simp only [decide_eq_true_eq, decide_eq_false_iff_not, Int.toNat_natCast] at h1 h2
        refine back rfl ((RenI.mk k cur hk hn ht hd).next hlt cur (by have e : renD a b (l.getD k dD) = cur.getD k dD := (by rw [← hat]; simp only [renD, if_neg h1, if_neg h2]); rw [e]; exact set_getD.symm)) (by simp only [RenI.next]; omega) (.cons _ (.cons_cons _ (.refl _))) (subT.cons rfl (subT.cons rfl (subT.cons rfl (subT.cons rfl (subT.cons rfl (subT.cons rfl subT.nil))))))
  ·
    obtain rfl : k = l.length := by omega
    have hcur : cur = l.map (renD a b) := by rw [List.take_of_length_le (by omega), List.take_length] at ht; exact ht
    refine h_seq ?_
    refine h_region ?_
    refine o_cmp rfl rfl rfl (by decide) ?_
    refine o_nil ?_
    refine h_seq ?_
    refine h_condf rfl (by simp) ?_
    refine h_exit ?_
    refine h_seq ?_
    refine h_region ?_
    refine o_move rfl (by decide) ?_
    refine o_callA rfl rfl EntC.out (by decide) (delete_os' cur (by omega) bb cap l.length (by omega) hc) fun v h' hr => ?_
    refine o_assign rfl (by decide) ?_
    refine o_nil ?_
    refine h_ret ?_
    exact retK1 rfl ⟨_, rfl, by rw [hcur] at hr; exact hr⟩

theorem renamed_spec (l : List Dbt) (hlen : l.length ≤ 1000000000) (v : AV) (h : AHeap) (hd : DebtsAt l v h) (a b : Int) : Fc Try.prog 48 [v, I a, I b] h (fun r h' => DebtsAt (renamedM l a b) r h') := by
  rcases hd with ⟨rfl, rfl, rfl⟩ | ⟨bb, cap, hc, rfl, rfl⟩
  · exact renamed_nil a b
  · exact renamed_os l hlen bb cap hc a b

end Go.Proofs.Ytbnonekkjjcdgaa
/- The walk of merge.Debts. -/
namespace Go.Proofs.Ytbnonekkjjcdgaa
open Go Go.RowKit Go.Shelf Hp
set_option maxRecDepth 10000
set_option maxHeartbeats 1000000
set_option linter.unusedVariables false
set_option linter.unusedSimpArgs false
attribute [local irreducible] WP WPs FnX IterX YdX RetP PanP Ch Back Join
theorem do_shape {w w' : Wd} {e : Ev} (h : doW w e = some w') : bareE e = true ∨ fullE e = true := by
  unfold doW mergeW splitW windW upW at h
  repeat' (first | (split at h) | (cases h; done))
  all_goals
    simp only [Bool.not_eq_false, Bool.and_eq_true] at *
    first
    | (have hb : bareE e = true := by simp_all
       exact .inl hb)
    | (have hb : fullE e = true := by simp_all
       exact .inr hb)
theorem step_shape {w w' : Wd} {e : Ev} (h : stepW w e = some w') : bareE e = true ∨ fullE e = true := by
  unfold stepW at h
  split at h
  · cases h
  · split at h
    · cases h
    · rename_i hd; exact do_shape hd
theorem runL_shape : ∀ {l : List Ev} {w : Wd} {i : Int}, (runL w l i).2.2 = 0 → ∀ e ∈ l, bareE e = true ∨ fullE e = true
  | [], _, _, _, e, he => by cases he
  | x :: l, w, i, h, e, he => by
    simp only [runL] at h
    split at h
    · rename_i w' hs
      rcases List.mem_cons.1 he with rfl | he
      · exact step_shape hs
      · exact runL_shape h e he
    · cases h
theorem run_shape {w : Wd} {l : List Ev} (h : (runM w l).2.2 = 0) : l.length ≤ 20 ∧ ∀ e ∈ l, -1000000000000 ≤ e.m ∧ e.m ≤ 1000000000000 := by
  unfold runM at h
  split at h
  · cases h
  · rename_i hc
    refine ⟨by simp at hc; omega, fun e he => ?_⟩
    rcases runL_shape h e he with hb | hb
    · have : e.m = 0 := by simp [bareE] at hb; exact hb.2
      omega
    · exact full_money hb
def debtE (cur : List Dbt) (e : Ev) : List Dbt :=
  if e.kind = 1 then renamedM cur e.a e.b else if e.kind = 2 then owedM cur e.a e.b e.m else if e.kind = 3 then renamedM (owedM cur e.a e.b e.m) e.a e.c else cur
def badD (d : Dbt) : Bool := !carOk d.fr || !carOk d.to
def debtsM (w : Wd) (l : List Ev) (ds : List Dbt) : List Dbt × Int := if (decide ((runM w l).2.2 ≠ 0) || (List.range ds.length).any (fun k => badD (ds.getD k dD))) = true then ([], 420) else (l.foldl debtE ds, 0)
theorem owed_len (l : List Dbt) (a b m : Int) : (owedM l a b m).length ≤ l.length + 1 := by
  unfold owedM; split
  · simp
  · split <;> simp
theorem ren_len (l : List Dbt) (a b : Int) : (renamedM l a b).length ≤ l.length := by
  unfold renamedM; exact Nat.le_trans (List.length_filter_le _ _) (by simp)
theorem debtE_len (l : List Dbt) (e : Ev) : (debtE l e).length ≤ l.length + 1 := by
  unfold debtE
  have h1 := owed_len l e.a e.b e.m
  have h2 := ren_len l e.a e.b
  have h3 := ren_len (owedM l e.a e.b e.m) e.a e.c
  split
  · omega
  · split
    · omega
    · split <;> omega
structure DbI (l : List Ev) (ds : List Dbt) where
  k : Nat
  cur : List Dbt
  v : AV
  hd : AHeap
  hk : k ≤ l.length
  hcur : cur = (l.take k).foldl debtE ds
  hl : cur.length ≤ ds.length + k
  hD : DebtsAt cur v hd
theorem fold_succ {l : List Ev} {ds : List Dbt} {k : Nat} (h : k < l.length) : (l.take (k + 1)).foldl debtE ds = debtE ((l.take k).foldl debtE ds) (l.getD k dE) := by
  have e : l.take (k + 1) = l.take k ++ [l.getD k dE] := by rw [List.take_add_one, List.getElem?_eq_getElem h]; simp [h]
  rw [e, List.foldl_append]; rfl
theorem debts_frz {l : List Dbt} {v : AV} {h : AHeap} (hd : DebtsAt l v h) : ∃ f, FrzA h [] v (V (l.map encD) f) := by
  rcases hd with ⟨rfl, rfl, rfl⟩ | ⟨b, cap, hc, rfl, rfl⟩
  · exact ⟨true, .refl _⟩
  · exact ⟨false, frz_os List.mem_cons_self (by simp) hc⟩

theorem badD_spec (d : Dbt) : Fn1 Try.prog 45 [.agg [I d.fr, I d.to, I d.m]] (B (badD d)) := by
  refine fnE_intro (N := 13) Try.func45 rfl rfl rfl ?_
  intro X
  refine h_seq ?_
  refine h_region ?_
  refine o_box rfl rfl (by decide) fun x1 => ?_
  refine o_assign rfl (by decide) ?_
  refine o_nil ?_
  refine h_seq ?_
  refine h_region ?_
  refine o_faddr rfl rfl (by decide) (by decide) ?_
  refine o_load 0 rfl rfl rfl rfl (by decide) ?_
  refine o_call1 rfl rfl EntC.out (by decide) (misCarrier_spec _) ?_
  refine o_not rfl (by decide) ?_
  refine o_move rfl (by decide) ?_
  refine o_guard rfl rfl (by decide) (fun g3 => ?_) (fun g3 => ?_)
  ·
    have g3 : _ = false := g3
    refine o_faddr rfl rfl (by decide) (by decide) ?_
    refine o_guardy rfl rfl (by rw [(not_of g3)]; rfl) (by decide) ?_
    refine o_load 0 rfl rfl rfl rfl (by decide) ?_
    refine o_guardy rfl rfl (by rw [(not_of g3)]; rfl) (by decide) ?_
    refine o_call1 rfl rfl EntC.out (by decide) (misCarrier_spec _) ?_
    refine o_guardy rfl rfl (by rw [(not_of g3)]; rfl) (by decide) ?_
    refine o_not rfl (by decide) ?_
    refine o_pickf rfl (by rw [(not_of g3)]; rfl) rfl (by decide) ?_
    refine o_assign rfl (by decide) ?_
    refine o_nil ?_
    refine h_ret ?_
    exact ret1' rfl (B_eq (by unfold badD; simp_all))
  ·
    have g3 : _ = true := g3
    refine o_guardn rfl rfl (by rw [(not_of g3)]; rfl) (by decide) ?_
    refine o_guardn rfl rfl (by rw [(not_of g3)]; rfl) (by decide) ?_
    refine o_guardn rfl rfl (by rw [(not_of g3)]; rfl) (by decide) ?_
    refine o_pickt rfl (by rw [(not_of g3)]; rfl) rfl (by decide) ?_
    refine o_assign rfl (by decide) ?_
    refine o_nil ?_
    refine h_ret ?_
    exact ret1' rfl (B_eq (by unfold badD; simp_all))

theorem bad_hp (ds : List Dbt) : ∀ k (hk : k < ds.length), Fc Try.prog 45 ([.agg [I ds[k].fr, I ds[k].to, I ds[k].m]] ++ []) [] (fun r h' => r = B (badD (ds.getD k dD)) ∧ h' = []) := fun k hk => by
  have e : ds.getD k dD = ds[k] := by simp [hk]
  rw [e]
  exact badD_spec ds[k]

theorem debts_spec (w : Wd) (l : List Ev) (hlen : l.length ≤ 1000000000) (f1 f2 f3 f : Bool) (ds : List Dbt) (hds : ds.length ≤ 900000000) (fd : Bool) : Fc Try.prog 20 [encW w f1 f2 f3, V (l.map encV) f, V (ds.map encD) fd] [] (fun r h' => (∃ f', r = .tup [V ((debtsM w l ds).1.map encD) f', I (debtsM w l ds).2]) ∧ h' = []) := by
  refine fnE_intro (N := 74) Try.func20 rfl rfl rfl ?_
  intro X
  refine h_seq ?_
  refine h_region ?_
  refine o_box rfl rfl (by decide) fun x5 => ?_
  refine o_assign rfl (by decide) ?_
  refine o_assign rfl (by decide) ?_
  refine o_nil ?_
  refine h_seq ?_
  refine h_region ?_
  refine o_load 0 rfl rfl rfl rfl (by decide) ?_
  refine o_move rfl (by decide) ?_
  refine o_callN rfl rfl EntC.out (by decide) (run_spec w l hlen f1 f2 f3 f) fun v h' hr => ?_
  obtain ⟨rfl, r1, r2, r3, rfl⟩ := hr
  refine o_move rfl (by decide) ?_
  refine o_extract rfl rfl (by decide) ?_
  refine o_extract rfl rfl (by decide) ?_
  refine o_extract rfl rfl (by decide) ?_
  refine o_alloc (by decide) fun x6 => ?_
  refine o_store 0 rfl rfl rfl rfl rfl rfl ?_
  refine o_assign rfl (by decide) ?_
  refine o_assign rfl (by decide) ?_
  refine o_nil ?_
  refine h_seq ?_
  refine h_region ?_
  refine o_assign rfl (by decide) ?_
  refine o_nil ?_
  refine h_seq ?_
  refine h_seq ?_
  refine h_region ?_
  refine o_move rfl (by decide) ?_
  refine o_cmp rfl rfl rfl (by decide) ?_
  refine o_move rfl (by decide) ?_
  refine o_guard rfl rfl (by decide) (fun g8 => ?_) (fun g8 => ?_)
  ·
    have g8 : _ = false := g8
    refine o_move rfl (by decide) ?_
    refine o_guardy rfl rfl g8 (by decide) ?_
    refine o_move rfl (by decide) ?_
    refine o_guardy rfl rfl g8 (by decide) ?_
    refine o_callN rfl rfl EntC.out (by decide) (dbtContains ds (by omega) fd 45 [] (fun _ => []) (fun k => badD (ds.getD k dD)) (bad_hp ds)) fun v h' hr => ?_
    obtain ⟨rfl, rfl⟩ := hr
    refine o_pickf rfl g8 rfl (by decide) ?_
    refine o_nil ?_
    refine h_cond rfl (fun c10 => ?_) (fun c10 => ?_)
    ·
      refine h_seq ?_
      refine h_region ?_
      refine o_assign rfl (by decide) ?_
      refine o_assign rfl (by decide) ?_
      refine o_nil ?_
      refine h_ret ?_
      have hq : debtsM w l ds = ([], 420) := (by unfold debtsM; rw [if_pos (by simp_all)])
      exact retG [] (.cons (resT rfl) (.cons (resT rfl) .nil)) (List.nil_sublist _) ⟨_, rfl, ⟨true, by rw [hq]; rfl⟩, rfl⟩
    ·
      refine h_skip ?_
      refine h_seq ?_
      refine h_region ?_
      refine o_move rfl (by decide) ?_
      have hok : (runM w l).2.2 = 0 := by simp_all
      have hsh := run_shape hok
      refine o_callN rfl rfl EntC.out (by decide) (cloneD_spec ds (by omega) fd) fun v0 h0 hD0 => ?_
      refine o_drop h0 (List.sublist_append_left _ _) ?_
      refine o_assign rfl (by decide) ?_
      refine o_nil ?_
      refine h_seq ?_
      refine h_seq ?_
      refine h_region ?_
      refine o_move rfl (by decide) ?_
      refine o_len rfl (by decide) ?_
      refine o_move rfl (by decide) ?_
      refine o_nil ?_
      refine h_block ?_
      refine h_famS (ι := DbI l ds) (fun i => [(1, V (l.map encV) f), (12, i.v), (31, V (l.map encV) f), (32, I (((l.map encV).length : Nat) : Int)), (33, I (i.k : Nat))]) (fun i => i.hd) (fun i => l.length - i.k) ⟨0, ds, v0, h0, Nat.zero_le _, rfl, by omega, hD0⟩ (.refl _) (subT.cons rfl (subT.cons rfl (subT.cons rfl (subT.cons rfl (subT.cons rfl subT.nil))))) ?_
      rintro ⟨k, cur, v, hd, hk, hcur, hl, hD⟩
      dsimp only
      have h20 := hsh.1
      by_cases hlt : k < l.length
      ·
        obtain ⟨e, hee⟩ : ∃ e, e = l.getD k dE := ⟨_, rfl⟩
        have hem : -1000000000000 ≤ e.m ∧ e.m ≤ 1000000000000 := hsh.2 e (by rw [hee]; simp [hlt])
        refine h_seq ?_
        refine h_region ?_
        refine o_cmp rfl rfl rfl (by decide) ?_
        refine o_nil ?_
        refine h_seq ?_
        refine h_condt rfl (by simp; omega) ?_
        refine h_skip ?_
        refine h_seq ?_
        refine h_block ?_
        refine h_seq ?_
        refine h_region ?_
        refine o_idxv rfl rfl (by omega) (show _ = some (encV e) from (by rw [eltV (by simpa using hlt)]; simp only [Int.toNat_natCast]; rw [← hee])) rfl (by decide) ?_
        refine o_loadv rfl rfl (by decide) ?_
        refine o_alloc (by decide) fun x12 => ?_
        refine o_store 0 rfl rfl rfl rfl rfl rfl ?_
        refine o_nil ?_
        refine h_seq ?_
        refine h_region ?_
        refine o_faddr rfl rfl (by decide) (by decide) ?_
        refine o_load 0 rfl rfl rfl rfl (by decide) ?_
        refine o_nil ?_
        refine h_block ?_
        refine h_seq ?_
        refine h_region ?_
        refine o_cmp rfl rfl rfl (by decide) ?_
        refine o_assign rfl (by decide) ?_
        refine o_nil ?_
        refine h_cond rfl (fun c14 => ?_) (fun c14 => ?_)
        ·
          refine h_region ?_
          refine o_move rfl (by decide) ?_
          refine o_faddr rfl rfl (by decide) (by decide) ?_
          refine o_load 0 rfl rfl rfl rfl (by decide) ?_
          refine o_faddr rfl rfl (by decide) (by decide) ?_
          refine o_load 0 rfl rfl rfl rfl (by decide) ?_
          refine o_callR (h2 := [_]) rfl rfl rfl EntC.out (by decide) (renamed_spec cur (by have := owed_len cur e.a e.b e.m; omega) v hd hD e.a e.b) fun v2 h2 hD2 => ?_
          refine o_assign rfl (by decide) ?_
          refine o_nil ?_
          refine h_region ?_
          refine o_add rfl rfl (by unfold in64; (try dsimp only); omega) (by decide) ?_
          refine o_move rfl (by decide) ?_
          refine o_nil ?_
          have hq : (renamedM cur e.a e.b) = debtE cur e := by unfold debtE; simp_all
          refine back rfl ⟨k + 1, (renamedM cur e.a e.b), v2, h2, hlt, (by rw [fold_succ hlt, ← hcur, ← hee]; exact hq), (by rw [hq]; have := debtE_len cur e; omega), hD2⟩ (by dsimp only; omega) (.cons _ (.refl _)) (subT.cons rfl (subT.cons rfl (subT.cons rfl (subT.cons rfl (subT.cons rfl subT.nil)))))
        ·
          refine h_seq ?_
          refine h_region ?_
          refine o_cmp rfl rfl rfl (by decide) ?_
          refine o_assign rfl (by decide) ?_
          refine o_nil ?_
          refine h_cond rfl (fun c16 => ?_) (fun c16 => ?_)
          ·
            refine h_region ?_
            refine o_move rfl (by decide) ?_
            refine o_faddr rfl rfl (by decide) (by decide) ?_
            refine o_load 0 rfl rfl rfl rfl (by decide) ?_
            refine o_faddr rfl rfl (by decide) (by decide) ?_
            refine o_load 0 rfl rfl rfl rfl (by decide) ?_
            refine o_faddr rfl rfl (by decide) (by decide) ?_
            refine o_load 0 rfl rfl rfl rfl (by decide) ?_
            refine o_callR (h2 := [_]) rfl rfl rfl EntC.out (by decide) (owed_spec cur (by omega) v hd hD e.a e.b e.m hem) fun v1 h1 hD1 => ?_
            refine o_assign rfl (by decide) ?_
            refine o_nil ?_
            refine h_region ?_
            refine o_add rfl rfl (by unfold in64; (try dsimp only); omega) (by decide) ?_
            refine o_move rfl (by decide) ?_
            refine o_nil ?_
            have hq : (owedM cur e.a e.b e.m) = debtE cur e := by unfold debtE; simp_all
            refine back rfl ⟨k + 1, (owedM cur e.a e.b e.m), v1, h1, hlt, (by rw [fold_succ hlt, ← hcur, ← hee]; exact hq), (by rw [hq]; have := debtE_len cur e; omega), hD1⟩ (by dsimp only; omega) (.cons _ (.refl _)) (subT.cons rfl (subT.cons rfl (subT.cons rfl (subT.cons rfl (subT.cons rfl subT.nil)))))
          ·
            refine h_seq ?_
            refine h_region ?_
            refine o_cmp rfl rfl rfl (by decide) ?_
            refine o_assign rfl (by decide) ?_
            refine o_nil ?_
            refine h_cond rfl (fun c18 => ?_) (fun c18 => ?_)
            ·
              refine h_draw _ (.cons_cons _ (List.nil_sublist _)) [(0, .flo), (1, .flo), (2, .box), (3, .flo), (4, .box), (5, .flo), (6, .box), (8, .flo), (9, .box), (10, .flo), (11, .box), (7, .act), (12, .act), (13, .flo)] mixed (by kernel_rfl) ?_
              refine c_flo rfl rfl (fun Xq rq Qq dq kq => o_move rfl (by decide) kq) ?_
              refine c_flo rfl rfl (fun Xq rq Qq dq kq => o_faddr rfl rfl (by decide) (by decide) kq) ?_
              refine c_box rfl rfl (fun Xq rq Qq dq kq => o_load 0 rfl rfl rfl rfl (by decide) kq) ?_
              refine c_flo rfl rfl (fun Xq rq Qq dq kq => o_faddr rfl rfl (by decide) (by decide) kq) ?_
              refine c_box rfl rfl (fun Xq rq Qq dq kq => o_load 0 rfl rfl rfl rfl (by decide) kq) ?_
              refine c_flo rfl rfl (fun Xq rq Qq dq kq => o_faddr rfl rfl (by decide) (by decide) kq) ?_
              refine c_box rfl rfl (fun Xq rq Qq dq kq => o_load 0 rfl rfl rfl rfl (by decide) kq) ?_
              refine c_flo rfl rfl (fun Xq rq Qq dq kq => o_faddr rfl rfl (by decide) (by decide) kq) ?_
              refine c_box rfl rfl (fun Xq rq Qq dq kq => o_load 0 rfl rfl rfl rfl (by decide) kq) ?_
              refine c_flo rfl rfl (fun Xq rq Qq dq kq => o_faddr rfl rfl (by decide) (by decide) kq) ?_
              refine c_box rfl rfl (fun Xq rq Qq dq kq => o_load 0 rfl rfl rfl rfl (by decide) kq) ?_
              refine c_act (ι := {p : AV × AHeap // DebtsAt (owedM cur e.a e.b e.m) p.1 p.2}) (fun p => p.1.1) (fun p => [(x12, .box 36 [I e.kind, I e.t, I e.a, I e.b, I e.c, I e.f, I e.to, I e.m])] ++ p.1.2) (fun _ => (.cons_cons _ (List.nil_sublist _))) rfl rfl (fun X r Q ds k => o_callR (h2 := [_]) rfl rfl rfl EntC.out (by decide) (owed_spec cur (by omega) v hd hD e.a e.b e.m hem) fun v1 h1 hD1 => k ⟨(v1, h1), hD1⟩) fun p1 => ?_
              refine c_act (ι := {p : AV × AHeap // DebtsAt (renamedM (owedM cur e.a e.b e.m) e.a e.c) p.1 p.2}) (fun p => p.1.1) (fun p => [(x12, .box 36 [I e.kind, I e.t, I e.a, I e.b, I e.c, I e.f, I e.to, I e.m])] ++ p.1.2) (fun _ => (.cons_cons _ (List.nil_sublist _))) rfl rfl (fun X r Q ds k => o_callR (h2 := [_]) rfl rfl rfl EntC.out (by decide) (renamed_spec (owedM cur e.a e.b e.m) (by have := owed_len cur e.a e.b e.m; omega) p1.1.1 p1.1.2 p1.2 e.a e.c) fun v2 h2 hD2 => k ⟨(v2, h2), hD2⟩) fun p2 => ?_
              refine c_flo rfl rfl (fun Xq rq Qq dq kq => o_assign rfl (by decide) kq) ?_
              refine c_nil ?_
              refine h_region ?_
              refine o_add rfl rfl (by unfold in64; (try dsimp only); omega) (by decide) ?_
              refine o_move rfl (by decide) ?_
              refine o_nil ?_
              have hq : (renamedM (owedM cur e.a e.b e.m) e.a e.c) = debtE cur e := by unfold debtE; simp_all
              refine back rfl ⟨k + 1, (renamedM (owedM cur e.a e.b e.m) e.a e.c), p2.1.1, p2.1.2, hlt, (by rw [fold_succ hlt, ← hcur, ← hee]; exact hq), (by rw [hq]; have := debtE_len cur e; omega), p2.2⟩ (by dsimp only; omega) (.cons _ (.refl _)) (subT.cons rfl (subT.cons rfl (subT.cons rfl (subT.cons rfl (subT.cons rfl subT.nil)))))
            ·
              refine h_skip ?_
              refine h_region ?_
              refine o_add rfl rfl (by unfold in64; (try dsimp only); omega) (by decide) ?_
              refine o_move rfl (by decide) ?_
              refine o_nil ?_
              have hq : cur = debtE cur e := by unfold debtE; simp_all
              refine back rfl ⟨k + 1, cur, v, hd, hlt, (by rw [fold_succ hlt, ← hcur, ← hee]; exact hq), (by rw [hq]; have := debtE_len cur e; omega), hD⟩ (by dsimp only; omega) (.cons _ (.refl _)) (subT.cons rfl (subT.cons rfl (subT.cons rfl (subT.cons rfl (subT.cons rfl subT.nil)))))
      ·
        obtain rfl : k = l.length := by omega
        refine h_seq ?_
        refine h_region ?_
        refine o_cmp rfl rfl rfl (by decide) ?_
        refine o_nil ?_
        refine h_seq ?_
        refine h_condf rfl (by simp) ?_
        refine h_exit ?_
        refine h_seq ?_
        refine h_region ?_
        refine o_move rfl (by decide) ?_
        refine o_assign rfl (by decide) ?_
        refine o_assign rfl (by decide) ?_
        refine o_nil ?_
        refine h_ret ?_
        have hq : debtsM w l ds = (l.foldl debtE ds, 0) := (by unfold debtsM; rw [if_neg (by simp_all)])
        rw [List.take_length] at hcur
        obtain ⟨f', hf⟩ := debts_frz hD
        exact retF (.cons (resT rfl) (.cons (resT rfl) .nil)) (frz_tup2 hf (.refl _)) ⟨_, rfl, ⟨f', by rw [hq, ← hcur]; rfl⟩, rfl⟩
  ·
    have g8 : _ = true := g8
    refine o_guardn rfl rfl g8 (by decide) ?_
    refine o_guardn rfl rfl g8 (by decide) ?_
    refine o_pickt rfl g8 rfl (by decide) ?_
    refine o_nil ?_
    refine h_condt rfl rfl ?_
    refine h_seq ?_
    refine h_region ?_
    refine o_assign rfl (by decide) ?_
    refine o_assign rfl (by decide) ?_
    refine o_nil ?_
    refine h_ret ?_
    have hq : debtsM w l ds = ([], 420) := (by unfold debtsM; rw [if_pos (by simp_all)])
    exact retG [] (.cons (resT rfl) (.cons (resT rfl) .nil)) (List.nil_sublist _) ⟨_, rfl, ⟨true, by rw [hq]; rfl⟩, rfl⟩

end Go.Proofs.Ytbnonekkjjcdgaa
