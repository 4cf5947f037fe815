/- The walk of the reference's Bent (maps). -/
import Derived.Test.YtnoicbajhlpndaaGreatMatA
namespace Go.Proofs.YtnoicbajhlpndaaGreat
open Go Go.RowKit Go.Shelf Hp
set_option maxRecDepth 10000
set_option maxHeartbeats 1000000
set_option linter.unusedVariables false
set_option linter.unusedSimpArgs false
set_option linter.unnecessarySimpa false
attribute [local irreducible] WP WPs FnX IterX YdX RetP PanP Ch Back Join
section
variable {P : Program} {X : Ctx} {N : Nat} {r : Option Nat} {Q : Post} {ds : List Deferred} {a : Tmps} {h : AHeap} {ops : Array Oper} {rest : List Oper} {d : Tmp} {ty : TypeId} {pos : String} {aft : Array Edge}
/-- 'append([]T{}, s...)', s not empty: an array of one's own. -/
theorem o_appendo {t : TypeId} {x y : Operand} {te k by_ : Nat} {ys : List (List PV)} {g : Bool} (hx : ev a x = some (V [] true)) (hy : ev a y = some (V ys g)) [hs : SliceC P t te k by_]
    (hok : ∀ z ∈ ys, okB k z = true) (h0 : 0 < ys.length) (hroom : ys.length ≤ 140737488355) (hN : d < N)
    (kk : ∀ b c', ys.length ≤ c' → WPs P X N r ops rest Q ds ((d, .os b k 0 ys.length c') :: a) ((b, .arr te k ys c') :: h)) :
    WPs P X N r ops (⟨some d, .call { callee := .builtin .append, args := #[x, y], argTypes := #[t, t] }, ty, pos, aft, none⟩ :: rest) Q ds a h :=
  o_appendv hx hy (.v _ _) hok (by simp) h0 (by simpa using hroom) hN fun b c' hc' => by
    have := kk b c' (by simpa using hc')
    simpa using this
theorem o_nile {x : Operand} {b kk i j : Nat} (hx : ev a x = some (.eptr b kk i j)) (hN : d < N) (k : WPs P X N r ops rest Q ds ((d, .eptr b kk i j) :: a) h) : WPs P X N r ops (⟨some d, .nilCheck x, ty, pos, aft, none⟩ :: rest) Q ds a h :=
  o_pure hN (by intro c e; cases e) (fun act w s => by
    have hr0 := s.ev hx
    generalize hxv : act.eval x = y at hr0
    cases hr0
    exact ⟨_, by simp [execOp, hxv, Sem.run_pure], .eptr _ _ _ _⟩) k
end
theorem eltBo {l : List Blk} {n : Int} (h : n.toNat < l.length) : (l.map encB)[0 + n.toNat]? = some (encB (l.getD n.toNat dB)) := by rw [Nat.zero_add]; simp [h]
theorem elt_set {l : List Blk} {z : Blk} {w : List PV} {n m : Int} (hw : w = encB z) (h : n.toNat < l.length) : ((l.map encB).set (0 + m.toNat) w)[0 + n.toNat]? = some (encB ((l.set m.toNat z).getD n.toNat dB)) := by
  have h2 := eltBo (l := l.set m.toNat z) (n := n) (by simpa using h)
  rw [Nat.zero_add] at h2
  rw [hw, Nat.zero_add, Nat.zero_add, ← List.map_set]; exact h2
def mkB (k : Nat) : List Blk := (List.range k).map fun i : Nat => (⟨2 * (i : Int), 2 * (i : Int) + 1, 1⟩ : Blk)
theorem mkB_succ (k : Nat) : mkB (k + 1) = mkB k ++ [⟨2 * (k : Int), 2 * (k : Int) + 1, 1⟩] := by simp [mkB, List.range_succ]
theorem mkB_len (k : Nat) : (mkB k).length = k := by simp [mkB]
structure RbI where
  k : Nat
  hk : k = 0
structure RbJ where
  k : Nat
  ob : Nat
  c : Nat
  es : List (List PV)
  len : Nat
  hk : k ≤ 42
  he : es = (mkB k).map encB
  hl : len = (mkB k).length
  hc : len ≤ c

theorem bent13_spec (l : List Blk) (hlen : l.length ≤ 1000000) (f : Bool) (a b c : Int) (ha : in64 a) (hb : in64 b) (hc : in64 c) : Fc Tryz.prog 59 [V (l.map encB) f, I a, I b, I c] [] (fun r h' => (∃ (l' : List Blk) (f' : Bool), r = V (l'.map encB) f' ∧ l'.length ≤ l.length + 50) ∧ h' = []) := by
 have hlq : l ≠ [] → 0 < l.length := List.length_pos_iff.2; refine fnE_intro (N := 93) Tryz.func59 rfl rfl rfl ?_
 intro X
 refine h_seq<|H<|S Z K<|o_nil ?_
 by_cases hbe : l = []
 ·
  refine h_seq<|H<|o_buildSlicep Z (by rfl) (by rfl) (by rfl) (by rfl) K ?_
  refine G Z K<|o_append00 Z Z (by simp [hbe]) K ?_
  refine S Z K<|o_nil<|h_seq<|h_seq<|H<|G Z K<|o_len Z K<|o_cmp Z Z Z K<|o_nil<|h_condt Z Z<|h_seq<|H ?_
  refine G Z K<|G Z K<|o_build Z Z K<|o_build Z Z K<|o_buildSlicep Z (by rfl) (by rfl) (by rfl) (by rfl) K ?_
  exact S Z K<|o_nil<|h_ret<|ret1 rfl ⟨_, rfl, ⟨[⟨b, c, 0⟩], true, rfl, by simp⟩, rfl⟩
 ·
  refine h_seq<|H<|o_buildSlicep Z (by rfl) (by rfl) (by rfl) (by rfl) K ?_
  refine G Z K<|o_appendo Z Z okB_B (by rw [List.length_map]; exact hlq hbe) (by simp <;> omega) K fun x2 c3 hc4 => ?_
  refine S Z K<|o_nil<|h_seq<|h_seq<|H<|G Z K<|o_leno Z K<|o_cmp Z Z Z K<|o_nil<|h_condf Z (by simp [hbe]) ?_
  refine h_skip<|h_seq<|H<|G Z K<|G Z K<|o_leno Z K<|o_call1 Z Z EntC.out K (pick13_spec _ _ hc (by rw [List.length_map]; have := hlq hbe; omega))<|S Z K<|o_nil ?_
  obtain ⟨p, hp⟩ : ∃ p, p = pickM c (((l.map encB).length : Nat) : Int) := ⟨_, rfl⟩
  have hlp := hlq hbe
  have hpr := pickM_range (c := c) (n := (((l.map encB).length : Nat) : Int)) (by rw [List.length_map]; omega)
  rw [← hp] at hpr ⊢
  rw [List.length_map] at hpr
  refine h_seq<|h_seq<|H<|G Z K<|o_call1 Z Z EntC.out K (pick13_spec _ _ ha K)<|o_nil<|h_block<|h_seq<|H<|o_cmp Z Z Z K<|S Z K<|o_nil ?_
  refine h_cond Z (fun c7 => ?_) (fun c7 => ?_)
  ·
   refine H<|G Z K<|G Z K<|G Z K<|o_idxo Z Z (by omega) (by rw [List.length_map]; omega) K<|o_faddre Z Z K K<|o_faddre Z Z K K ?_
   refine o_storee 0 Z Z (by first | exact eltBo (by omega) | exact elt_set (z := (l.getD p.toNat dB)) rfl (by omega)) rfl rfl rfl rfl (by simp [encB]) ?_
   refine o_nil<|h_heap (h' := [(x2, .arr 116 3 ((l.set p.toNat ⟨b, (l.getD p.toNat dB).t, (l.getD p.toNat dB).c⟩).map encB) c3)]) (by simp only [Nat.zero_add, List.map_set]; rfl) ?_
   exact h_seq<|H<|G Z K<|S Z K<|o_nil<|h_ret<|retF (.cons (resT rfl) .nil) (frz_os List.mem_cons_self (by simp [chunk_length]) hc4) ⟨_, rfl, ⟨(l.set p.toNat ⟨b, (l.getD p.toNat dB).t, (l.getD p.toNat dB).c⟩), false, rfl, by simp⟩, rfl⟩
  ·
   refine h_seq<|H<|o_cmp Z Z Z K<|S Z K<|o_nil<|h_cond Z (fun c9 => ?_) (fun c9 => ?_)
   ·
    refine H<|G Z K<|G Z K<|G Z K<|o_idxo Z Z (by omega) (by rw [List.length_map]; omega) K<|o_faddre Z Z K K<|o_faddre Z Z K K ?_
    refine o_storee 0 Z Z (by first | exact eltBo (by omega) | exact elt_set (z := (l.getD p.toNat dB)) rfl (by omega)) rfl rfl rfl rfl (by simp [encB]) ?_
    refine o_nil<|h_heap (h' := [(x2, .arr 116 3 ((l.set p.toNat ⟨(l.getD p.toNat dB).f, b, (l.getD p.toNat dB).c⟩).map encB) c3)]) (by simp only [Nat.zero_add, List.map_set]; rfl) ?_
    exact h_seq<|H<|G Z K<|S Z K<|o_nil<|h_ret<|retF (.cons (resT rfl) .nil) (frz_os List.mem_cons_self (by simp [chunk_length]) hc4) ⟨_, rfl, ⟨(l.set p.toNat ⟨(l.getD p.toNat dB).f, b, (l.getD p.toNat dB).c⟩), false, rfl, by simp⟩, rfl⟩
   ·
    refine h_seq<|H<|o_cmp Z Z Z K<|S Z K<|o_nil<|h_cond Z (fun c11 => ?_) (fun c11 => ?_)
    ·
     refine H<|G Z K<|G Z K<|G Z K<|o_idxo Z Z (by omega) (by rw [List.length_map]; omega) K<|o_faddre Z Z K K ?_
     refine o_storee 0 Z Z (by first | exact eltBo (by omega) | exact elt_set (z := (l.getD p.toNat dB)) rfl (by omega)) rfl rfl rfl rfl (by simp [encB]) ?_
     refine o_nil<|h_heap (h' := [(x2, .arr 116 3 ((l.set p.toNat ⟨(l.getD p.toNat dB).f, (l.getD p.toNat dB).t, b⟩).map encB) c3)]) (by simp only [Nat.zero_add, List.map_set]; rfl) ?_
     exact h_seq<|H<|G Z K<|S Z K<|o_nil<|h_ret<|retF (.cons (resT rfl) .nil) (frz_os List.mem_cons_self (by simp [chunk_length]) hc4) ⟨_, rfl, ⟨(l.set p.toNat ⟨(l.getD p.toNat dB).f, (l.getD p.toNat dB).t, b⟩), false, rfl, by simp⟩, rfl⟩
    ·
     refine h_seq<|H<|o_cmp Z Z Z K<|S Z K<|o_nil<|h_cond Z (fun c13 => ?_) (fun c13 => ?_)
     ·
      refine H<|G Z K<|G Z K<|G Z K<|o_idxo Z Z (by omega) (by rw [List.length_map]; omega) K<|o_loade 0 Z Z (by first | exact eltBo (by omega) | exact elt_set (z := (l.getD p.toNat dB)) rfl (by omega)) rfl rfl K ?_
      refine o_buildSlicep Z (by rfl) (by rfl) (by rfl) (by rfl) K ?_
      refine o_append 0 Z Z Z (Src.v _ _) (okB_one rfl) (by simp) (by simp [chunk_length]; try omega) K fun x14 c15 hc16 => ?_
      exact S Z K<|o_nil<|h_seq<|H<|G Z K<|S Z K<|o_nil<|h_ret<|retF (.cons (resT rfl) .nil) (frz_os List.mem_cons_self (by simp [chunk_length]) hc16) ⟨_, rfl, ⟨(l ++ [(l.getD p.toNat dB)]), false, (by rw [List.map_append]; rfl), by simp⟩, rfl⟩
     ·
      refine h_seq<|H<|o_cmp Z Z Z K<|S Z K<|o_nil<|h_cond Z (fun c18 => ?_) (fun c18 => ?_)
      ·
       refine h_draw _ (List.nil_sublist _) [(0, .flo), (1, .flo), (2, .flo), (3, .flo), (4, .flo), (5, .flo), (6, .val), (7, .flo), (8, .flo), (9, .val), (10, .flo), (11, .sto), (12, .flo), (13, .sto)] mixed (by kernel_rfl)<|C Z Z (fun jj => G Z K jj)<|C Z Z (fun jj => G Z K jj)<|C Z Z (fun jj => G Z K jj)<|C Z Z (fun jj => G Z K jj)<|C Z Z (fun jj => G Z K jj)<|C Z Z (fun jj => o_idxo Z Z (by omega) (by rw [List.length_map]; omega) K jj)<|c_val Z Z (fun _ _ _ _ jj => o_loade 0 Z Z (by first | exact eltBo (by omega) | exact elt_set (z := (l.getD p.toNat dB)) rfl (by omega)) rfl rfl K jj) ?_
       refine C Z Z (fun jj => G Z K jj)<|C Z Z (fun jj => o_idxo Z Z (by omega) (by rw [List.length_map]; omega) K jj)<|c_val Z Z (fun _ _ _ _ jj => o_loade 0 Z Z (by first | exact eltBo (by omega) | exact elt_set (z := (l.getD p.toNat dB)) rfl (by omega)) rfl rfl K jj) ?_
       refine C Z Z (fun jj => o_idxo Z Z (by omega) (by rw [List.length_map]; omega) K jj) ?_
       refine c_sto (List.nil_sublist _) rfl rfl (fun _ _ _ _ jj => o_storee 0 Z Z (by first | exact eltBo (by omega) | exact elt_set (z := (l.getD p.toNat dB)) rfl (by omega)) rfl rfl rfl rfl (by simp [encB]) jj) ?_
       refine C Z Z (fun jj => o_idxo Z Z (by omega) (by rw [List.length_map]; omega) K jj) ?_
       refine c_sto (List.nil_sublist _) rfl rfl (fun _ _ _ _ jj => o_storee 0 Z Z (by first | exact eltBo (by omega) | exact elt_set (z := (l.getD p.toNat dB)) rfl (by omega)) rfl rfl rfl rfl (by simp [encB]) jj) ?_
       refine c_nil<|h_heap (h' := [(x2, .arr 116 3 (((l.set (0 : Int).toNat (l.getD p.toNat dB)).set p.toNat (l.getD (0 : Int).toNat dB)).map encB) c3)]) (by simp only [Nat.zero_add, List.map_set]; rfl) ?_
       exact h_seq<|H<|G Z K<|S Z K<|o_nil<|h_ret<|retF (.cons (resT rfl) .nil) (frz_os List.mem_cons_self (by simp [chunk_length]) hc4) ⟨_, rfl, ⟨((l.set (0 : Int).toNat (l.getD p.toNat dB)).set p.toNat (l.getD (0 : Int).toNat dB)), false, rfl, by simp⟩, rfl⟩
      ·
       refine h_seq<|H<|S Z K<|o_nil<|h_seq<|H<|S Z K<|o_nil<|h_block ?_
       have hpb := pickM_range (c := b) (n := 4) (by omega)
       refine h_famS (ι := (RbI) ⊕ (RbJ)) (fun i => match i with | .inl i => [(2, I b), (9, V [] true), (11, I (i.k : Nat))] | .inr i => [(2, I b), (9, .os i.ob 3 0 i.len i.c), (11, I (i.k : Nat))]) (fun i => match i with | .inl i => [] | .inr i => (i.ob, .arr 116 3 i.es i.c) :: []) (fun i => match i with | .inl i => 43 - i.k | .inr i => 43 - i.k) (.inl ⟨0, rfl⟩) (.cons _ (.refl _)) (subT.cons Z (subT.cons Z (subT.cons Z subT.nil))) ?_
       rintro (⟨k, hk⟩ | ⟨k, ob, c, es, len, hk, he, hl, hc⟩)
       ·
        dsimp only
        refine h_seq<|h_seq<|H<|G Z K<|G Z K<|o_call1 Z Z EntC.out K (pick13_spec _ _ hb K)<|o_add Z Z (by unfold in64; (try dsimp only); omega) K ?_
        refine o_cmp Z Z Z K<|o_nil<|h_cond Z (fun c20 => ?_) (fun c20 => ?_)
        ·
         refine h_skip<|h_seq<|h_block<|H<|G Z K<|G Z K<|o_mul Z Z (by unfold in64; (try dsimp only); omega) K ?_
         refine G Z K<|o_mul Z Z (by unfold in64; (try dsimp only); omega) K ?_
         refine o_add Z Z (by unfold in64; (try dsimp only); omega) K ?_
         refine o_build Z Z K<|o_build Z Z K<|o_buildSlicep Z (by rfl) (by rfl) (by rfl) (by rfl) K ?_
         refine o_appendv Z Z (Src.v _ _) (okB_one rfl) (by simp [chunk]) (by rw [chunk_length]; omega) (by simp [chunk_length]; try omega) K fun x21 c22 hc23 => ?_
         refine S Z K<|o_nil<|H<|G Z K<|o_add Z Z (by unfold in64; (try dsimp only); omega) K ?_
         refine S Z K<|o_nil ?_
         have hlt : ((k : Nat) : Int) < 39 + pickM b 4 := by simpa using c20
         refine back rfl (.inr ⟨k + 1, x21, c22, (mkB k ++ [(⟨2 * (k : Int), 2 * (k : Int) + 1, 1⟩ : Blk)]).map encB, _, by omega, (by rw [mkB_succ]), (by rw [mkB_succ]; simp [chunk_length, mkB_len, hk]), (by simpa [chunk_length] using hc23)⟩) (by dsimp only; omega) (by dsimp only; rw [List.map_append, show (mkB k).map encB = [] from by rw [hk]; rfl]; exact (.cons_cons _ (.refl _))) (subT.cons Z (subT.cons Z (subT.cons Z subT.nil)))
        ·
         exact h_exit<|h_seq<|H<|G Z K<|S Z K<|o_nil<|h_ret<|ret1 rfl ⟨_, rfl, ⟨[], true, rfl, by simp⟩, rfl⟩
       ·
        dsimp only
        subst he; subst hl
        have hml := mkB_len k
        refine h_seq<|h_seq<|H<|G Z K<|G Z K<|o_call1 Z Z EntC.out K (pick13_spec _ _ hb K)<|o_add Z Z (by unfold in64; (try dsimp only); omega) K ?_
        refine o_cmp Z Z Z K<|o_nil<|h_cond Z (fun c25 => ?_) (fun c25 => ?_)
        ·
         refine h_skip<|h_seq<|h_block<|H<|G Z K<|G Z K<|o_mul Z Z (by unfold in64; (try dsimp only); omega) K ?_
         refine G Z K<|o_mul Z Z (by unfold in64; (try dsimp only); omega) K ?_
         refine o_add Z Z (by unfold in64; (try dsimp only); omega) K ?_
         refine o_build Z Z K<|o_build Z Z K<|o_buildSlicep Z (by rfl) (by rfl) (by rfl) (by rfl) K ?_
         refine o_append 0 Z Z Z (Src.v _ _) (okB_one rfl) (by simp) (by simp [chunk_length]; try omega) K fun x26 c27 hc28 => ?_
         refine S Z K<|o_nil<|H<|G Z K<|o_add Z Z (by unfold in64; (try dsimp only); omega) K ?_
         refine S Z K<|o_nil ?_
         have hlt : ((k : Nat) : Int) < 39 + pickM b 4 := by simpa using c25
         refine back rfl (.inr ⟨k + 1, x26, c27, (mkB k ++ [(⟨2 * (k : Int), 2 * (k : Int) + 1, 1⟩ : Blk)]).map encB, _, by omega, (by rw [mkB_succ]), (by rw [mkB_succ]; simp [chunk_length, mkB_len]), (by simpa [chunk_length] using hc28)⟩) (by dsimp only; omega) (by dsimp only; rw [List.map_append]; exact (.cons_cons _ (.refl _))) (subT.cons Z (subT.cons Z (subT.cons Z subT.nil)))
        ·
         exact h_exit<|h_seq<|H<|G Z K<|S Z K<|o_nil<|h_ret<|retF (.cons (resT rfl) .nil) (frz_os List.mem_cons_self (by simp) hc) ⟨_, rfl, ⟨mkB k, false, rfl, by omega⟩, rfl⟩

end Go.Proofs.YtnoicbajhlpndaaGreat
/- The walk of the reference's Bent (worlds and events). -/
namespace Go.Proofs.YtnoicbajhlpndaaGreat
open Go Go.RowKit Go.Shelf Hp
set_option maxRecDepth 10000
set_option maxHeartbeats 1000000
set_option linter.unusedVariables false
set_option linter.unusedSimpArgs false
set_option linter.unnecessarySimpa false
attribute [local irreducible] WP WPs FnX IterX YdX RetP PanP Ch Back Join
theorem tdiv13 {m : Int} (h : in64 m) : in64 (m.tdiv 13) := by
  unfold in64 at h ⊢
  rcases Int.le_total 0 m with h0 | h0
  · rw [Int.tdiv_eq_ediv_of_nonneg h0]; omega
  · have : m.tdiv 13 = -((-m).tdiv 13) := by rw [Int.neg_tdiv]; omega
    rw [this, Int.tdiv_eq_ediv_of_nonneg (by omega)]; omega
theorem okB_V {l : List Ev} : ∀ z ∈ l.map encV, okB 8 z = true := by
  intro z hz; obtain ⟨b, _, rfl⟩ := List.mem_map.1 hz; rfl
def upV : Ev := ⟨4, 10000000, 0, 0, 0, 0, 0, 0⟩
structure BvI where
  k : Nat
  hk : k = 0
structure BvJ where
  ob : Nat
  c : Nat
  L : List Ev
  es : List (List PV)
  len : Nat
  he : es = L.map encV
  hl : len = L.length
  hb : L.length ≤ 21
  hc : len ≤ c

theorem bent42_spec (w : Wd) (hv : VParts w) (f1 f2 f3 : Bool) (l : List Ev) (hl20 : l.length ≤ 20) (fl : Bool) (a b c : Int) (ha : in64 a) (hb : in64 b) (hc : in64 c) : Fc Tryz.prog 14 [encW w f1 f2 f3, V (l.map encV) fl, I a, I b, I c] [] (fun r h' => (∃ (w' : Wd) (l' : List Ev) (g1 g2 g3 g4 : Bool), r = .tup [encW w' g1 g2 g3, V (l'.map encV) g4] ∧ w'.blocks.length ≤ 1000 ∧ l'.length ≤ 100) ∧ h' = []) := by
 have hlq : l ≠ [] → 0 < l.length := List.length_pos_iff.2; have hlb := hv.lb; have hll := hv.ll; have hbl := valid_len hv.blk; have hpc := pickM_range (c := c) (n := 8) (by omega); refine fnE_intro (N := 124) Tryz.func14 rfl rfl rfl ?_
 intro X
 refine h_seq<|H<|o_box Z Z K fun x1 => o_alloc K fun x2 => S Z K<|o_nil ?_
 by_cases hbe : l = []
 ·
  refine h_seq<|H<|O 1 Z Z Z Z K<|o_callN Z Z EntC.out K (copy42_spec w f1 f2 f3 (by omega) hv.lb hv.ll) fun v h' hr => ?_
  obtain ⟨fc, b1, b2, c1, c2, hc1, hc2, rfl, rfl⟩ := hr
  refine o_alloc K fun x3 => ?_
  refine o_store 0 Z Z Z Z Z Z<|o_nil<|h_seq<|H<|o_buildSlicep Z (by rfl) (by rfl) (by rfl) (by rfl) K ?_
  refine G Z K<|o_append00 Z Z (by simp [hbe]) K ?_
  refine S Z K<|o_nil<|h_seq<|H<|G Z K<|o_call1 Z Z EntC.out K (pick42_spec _ _ ha K)<|S Z K<|o_nil<|h_seq<|h_seq<|H<|G Z K ?_
  refine o_cmp Z Z Z K<|G Z K<|o_guard Z Z K (fun g5 => ?_) (fun g5 => ?_)
  ·
   have g5 : _ = true := g5
   refine G Z K<|W Z Z g5 K<|o_len Z K<|W Z Z g5 K<|o_cmp Z Z Z K<|o_pickt Z g5 rfl K<|o_nil<|h_condf Z Z<|h_skip<|h_seq<|h_seq<|H ?_
   refine G Z K<|o_nil<|h_block<|h_seq<|H<|o_cmp Z Z Z K<|S Z K<|o_nil<|h_cond Z (fun c8 => ?_) (fun c8 => ?_)
   ·
    refine H<|G Z K<|F Z Z K K ?_
    refine o_store 0 Z Z Z Z Z Z<|o_nil<|h_seq<|h_frzR (⟨b, w.ever, w.blocks, w.bal, w.lev⟩ : Wd) fc x3 b1 b2 c1 c2 (by simp [hlb]) (by simp [hll]) hc1 hc2 (rest := [(x2, .box 32 [I 0, I 0, V [] true, V [] true, V [] true]), (x1, .box 32 (cellsW w f1 f2 f3))]) ?_
    refine H<|O 0 Z Z Z Z K<|G Z K ?_
    exact o_store 1 Z Z Z Z Z Z<|S Z K<|o_nil<|h_ret<|retG [] (.cons (resC 1 rfl rfl rfl) (.cons (resT rfl) .nil)) (List.nil_sublist _) ⟨_, rfl, ⟨(⟨b, w.ever, w.blocks, w.bal, w.lev⟩ : Wd), ([] : List Ev), fc, false, false, true, rfl, (by dsimp only; omega), (by first | omega | (simp; done) | (simp; omega))⟩, rfl⟩
   ·
    refine h_seq<|H<|o_cmp Z Z Z K<|S Z K<|o_nil<|h_cond Z (fun c10 => ?_) (fun c10 => ?_)
    ·
     refine H<|G Z K<|F Z Z K K ?_
     refine o_store 0 Z Z Z Z Z Z<|o_nil<|h_seq<|h_frzR (⟨w.alive, b, w.blocks, w.bal, w.lev⟩ : Wd) fc x3 b1 b2 c1 c2 (by simp [hlb]) (by simp [hll]) hc1 hc2 (rest := [(x2, .box 32 [I 0, I 0, V [] true, V [] true, V [] true]), (x1, .box 32 (cellsW w f1 f2 f3))]) ?_
     refine H<|O 0 Z Z Z Z K<|G Z K ?_
     exact o_store 1 Z Z Z Z Z Z<|S Z K<|o_nil<|h_ret<|retG [] (.cons (resC 1 rfl rfl rfl) (.cons (resT rfl) .nil)) (List.nil_sublist _) ⟨_, rfl, ⟨(⟨w.alive, b, w.blocks, w.bal, w.lev⟩ : Wd), ([] : List Ev), fc, false, false, true, rfl, (by dsimp only; omega), (by first | omega | (simp; done) | (simp; omega))⟩, rfl⟩
    ·
     refine h_seq<|H<|o_cmp Z Z Z K<|S Z K<|o_nil<|h_cond Z (fun c12 => ?_) (fun c12 => ?_)
     ·
      refine h_draw _ (.cons_cons _ (.cons _ (.cons _ (.cons_cons _ (.cons_cons _ (List.nil_sublist _)))))) [(0, .flo), (1, .box), (2, .flo), (3, .flo), (4, .flo), (5, .flo), (6, .sto)] mixed (by kernel_rfl)<|C Z Z (fun jj => F Z Z K K jj)<|c_box Z Z (fun _ _ _ _ jj => O 0 Z Z Z Z K jj)<|C Z Z (fun jj => G Z K jj)<|C Z Z (fun jj => o_call1 Z Z EntC.out K (pick42_spec _ _ hc K) jj)<|C Z Z (fun jj => G Z K jj)<|C Z Z (fun jj => o_idxo Z Z (by omega) (by first | omega | (rw [List.length_map]; have := hlq hbe; have := pickM_range (c := c) (n := (((l.map encV).length : Nat) : Int)) (by rw [List.length_map]; omega); rw [List.length_map] at this; omega)) K jj) ?_
      refine c_sto (.cons_cons _ (.cons _ (.cons _ (.cons_cons _ (.cons_cons _ (List.nil_sublist _)))))) rfl rfl (fun _ _ _ _ jj => o_storee 1 Z Z (by first | exact eltVo (by omega) | exact eltW (by omega)) rfl rfl rfl rfl (by first | (simp [encV]; done) | (simp [encI]; done)) jj) ?_
      refine c_nil<|h_heap (h' := [(x3, .box 32 [I w.alive, I w.ever, V (w.blocks.map encB) fc, .os b1 1 0 8 c1, .os b2 1 0 8 c2]), (b1, .arr 3 1 ((w.bal.set (pickM c 8).toNat b).map encI) c1), (b2, .arr 3 1 (w.lev.map encI) c2), (x2, .box 32 [I 0, I 0, V [] true, V [] true, V [] true]), (x1, .box 32 (cellsW w f1 f2 f3))]) (by simp only [Nat.zero_add, List.map_set]; rfl) ?_
      refine h_seq<|h_frzR (⟨w.alive, w.ever, w.blocks, (w.bal.set (pickM c 8).toNat b), w.lev⟩ : Wd) fc x3 b1 b2 c1 c2 (by simp [hlb]) (by simp [hll]) hc1 hc2 (rest := [(x2, .box 32 [I 0, I 0, V [] true, V [] true, V [] true]), (x1, .box 32 (cellsW w f1 f2 f3))]) ?_
      refine H<|O 0 Z Z Z Z K<|G Z K ?_
      exact o_store 1 Z Z Z Z Z Z<|S Z K<|o_nil<|h_ret<|retG [] (.cons (resC 1 rfl rfl rfl) (.cons (resT rfl) .nil)) (List.nil_sublist _) ⟨_, rfl, ⟨(⟨w.alive, w.ever, w.blocks, (w.bal.set (pickM c 8).toNat b), w.lev⟩ : Wd), ([] : List Ev), fc, false, false, true, rfl, (by dsimp only; omega), (by first | omega | (simp; done) | (simp; omega))⟩, rfl⟩
     ·
      refine h_seq<|H<|o_cmp Z Z Z K<|S Z K<|o_nil<|h_cond Z (fun c14 => ?_) (fun c14 => ?_)
      ·
       refine h_draw _ (.cons_cons _ (.cons _ (.cons _ (.cons_cons _ (.cons_cons _ (List.nil_sublist _)))))) [(0, .flo), (1, .box), (2, .flo), (3, .flo), (4, .flo), (5, .flo), (6, .sto)] mixed (by kernel_rfl)<|C Z Z (fun jj => F Z Z K K jj)<|c_box Z Z (fun _ _ _ _ jj => O 0 Z Z Z Z K jj)<|C Z Z (fun jj => G Z K jj)<|C Z Z (fun jj => o_call1 Z Z EntC.out K (pick42_spec _ _ hc K) jj)<|C Z Z (fun jj => G Z K jj)<|C Z Z (fun jj => o_idxo Z Z (by omega) (by first | omega | (rw [List.length_map]; have := hlq hbe; have := pickM_range (c := c) (n := (((l.map encV).length : Nat) : Int)) (by rw [List.length_map]; omega); rw [List.length_map] at this; omega)) K jj) ?_
       refine c_sto (.cons_cons _ (.cons _ (.cons _ (.cons_cons _ (.cons_cons _ (List.nil_sublist _)))))) rfl rfl (fun _ _ _ _ jj => o_storee 2 Z Z (by first | exact eltVo (by omega) | exact eltW (by omega)) rfl rfl rfl rfl (by first | (simp [encV]; done) | (simp [encI]; done)) jj) ?_
       refine c_nil<|h_heap (h' := [(x3, .box 32 [I w.alive, I w.ever, V (w.blocks.map encB) fc, .os b1 1 0 8 c1, .os b2 1 0 8 c2]), (b1, .arr 3 1 (w.bal.map encI) c1), (b2, .arr 3 1 ((w.lev.set (pickM c 8).toNat b).map encI) c2), (x2, .box 32 [I 0, I 0, V [] true, V [] true, V [] true]), (x1, .box 32 (cellsW w f1 f2 f3))]) (by simp only [Nat.zero_add, List.map_set]; rfl) ?_
       refine h_seq<|h_frzR (⟨w.alive, w.ever, w.blocks, w.bal, (w.lev.set (pickM c 8).toNat b)⟩ : Wd) fc x3 b1 b2 c1 c2 (by simp [hlb]) (by simp [hll]) hc1 hc2 (rest := [(x2, .box 32 [I 0, I 0, V [] true, V [] true, V [] true]), (x1, .box 32 (cellsW w f1 f2 f3))]) ?_
       refine H<|O 0 Z Z Z Z K<|G Z K ?_
       exact o_store 1 Z Z Z Z Z Z<|S Z K<|o_nil<|h_ret<|retG [] (.cons (resC 1 rfl rfl rfl) (.cons (resT rfl) .nil)) (List.nil_sublist _) ⟨_, rfl, ⟨(⟨w.alive, w.ever, w.blocks, w.bal, (w.lev.set (pickM c 8).toNat b)⟩ : Wd), ([] : List Ev), fc, false, false, true, rfl, (by dsimp only; omega), (by first | omega | (simp; done) | (simp; omega))⟩, rfl⟩
      ·
       refine h_seq<|H<|o_cmp Z Z Z K<|S Z K<|o_nil<|h_cond Z (fun c16 => ?_) (fun c16 => ?_)
       ·
        refine H<|F Z Z K K<|O 0 Z Z Z Z K<|G Z K<|o_quo Z Z K (by first | exact tdiv13 ha | (unfold in64; (try dsimp only); omega)) K ?_
        refine G Z K<|G Z K<|o_callN Z Z EntC.out K (bent13_spec w.blocks (by omega) fc (a.tdiv 13) b c (tdiv13 ha) hb hc) fun v h' hr => ?_
        obtain ⟨⟨lb, fb, rfl, hlb2⟩, rfl⟩ := hr
        refine F Z Z K K ?_
        refine o_store 0 Z Z Z Z Z Z<|o_nil<|h_seq<|h_frzR (⟨w.alive, w.ever, lb, w.bal, w.lev⟩ : Wd) fb x3 b1 b2 c1 c2 (by simp [hlb]) (by simp [hll]) hc1 hc2 (rest := [(x2, .box 32 [I 0, I 0, V [] true, V [] true, V [] true]), (x1, .box 32 (cellsW w f1 f2 f3))]) ?_
        refine H<|O 0 Z Z Z Z K<|G Z K ?_
        exact o_store 1 Z Z Z Z Z Z<|S Z K<|o_nil<|h_ret<|retG [] (.cons (resC 1 rfl rfl rfl) (.cons (resT rfl) .nil)) (List.nil_sublist _) ⟨_, rfl, ⟨(⟨w.alive, w.ever, lb, w.bal, w.lev⟩ : Wd), ([] : List Ev), fb, false, false, true, rfl, (by dsimp only; omega), (by first | omega | (simp; done) | (simp; omega))⟩, rfl⟩
       ·
        refine h_block<|h_famS (ι := (BvI) ⊕ (BvJ)) (fun i => match i with | .inl i => [(10, .ptr x2 0), (12, .ptr x3 0), (13, V [] true)] | .inr i => [(10, .ptr x2 0), (12, .ptr x3 0), (13, .os i.ob 8 0 i.len i.c)]) (fun i => match i with | .inl i => (x3, .box 32 [I w.alive, I w.ever, V (w.blocks.map encB) fc, .os b1 1 0 8 c1, .os b2 1 0 8 c2]) :: (b1, .arr 3 1 (w.bal.map encI) c1) :: (b2, .arr 3 1 (w.lev.map encI) c2) :: (x2, .box 32 [I 0, I 0, V [] true, V [] true, V [] true]) :: [] | .inr i => (i.ob, .arr 41 8 i.es i.c) :: (x3, .box 32 [I w.alive, I w.ever, V (w.blocks.map encB) fc, .os b1 1 0 8 c1, .os b2 1 0 8 c2]) :: (b1, .arr 3 1 (w.bal.map encI) c1) :: (b2, .arr 3 1 (w.lev.map encI) c2) :: (x2, .box 32 [I 0, I 0, V [] true, V [] true, V [] true]) :: []) (fun i => match i with | .inl i => 22 | .inr i => 21 - i.L.length) (.inl ⟨0, rfl⟩) (.cons_cons _ (.cons_cons _ (.cons_cons _ (.cons_cons _ (.cons _ (.refl _)))))) (subT.cons Z (subT.cons Z (subT.cons Z subT.nil))) ?_
        rintro (⟨k, hk⟩ | ⟨ob, ce, L, es, len, he, hl, hb21, hce⟩)
        ·
         dsimp only
         refine h_seq<|h_seq<|H<|G Z K<|o_len Z K<|o_cmp Z Z Z K<|o_nil<|h_cond Z (fun c18 => ?_) (fun c18 => ?_)
         ·
          refine h_skip<|h_block<|H<|G Z K<|o_build Z Z K<|o_buildSlicep Z (by rfl) (by rfl) (by rfl) (by rfl) K ?_
          refine o_appendv Z Z (Src.v _ _) (okB_one rfl) (by simp [chunk]) (by rw [chunk_length]; omega) (by simp [chunk_length]; try omega) K fun x19 c20 hc21 => ?_
          refine S Z K<|o_nil<|back rfl (.inr ⟨x19, c20, ([] : List Ev) ++ [upV], (([] : List Ev) ++ [upV]).map encV, _, rfl, (by simp [chunk_length]), (by simp; try omega), (by simpa [chunk_length] using hc21)⟩) (by dsimp only; simp; try omega) (.cons_cons _ (.cons_cons _ (.cons_cons _ (.cons_cons _ (.cons_cons _ (.refl _)))))) (subT.cons Z (subT.cons Z (subT.cons Z subT.nil)))
         ·
          refine h_exit<|h_seq<|h_frzR (⟨w.alive, w.ever, w.blocks, w.bal, w.lev⟩ : Wd) fc x3 b1 b2 c1 c2 (by simp [hlb]) (by simp [hll]) hc1 hc2 (rest := [(x2, .box 32 [I 0, I 0, V [] true, V [] true, V [] true])]) ?_
          refine H<|O 0 Z Z Z Z K<|G Z K ?_
          exact o_store 1 Z Z Z Z Z Z<|S Z K<|o_nil<|h_ret<|retG [] (.cons (resC 1 rfl rfl rfl) (.cons (resT rfl) .nil)) (List.nil_sublist _) ⟨_, rfl, ⟨(⟨w.alive, w.ever, w.blocks, w.bal, w.lev⟩ : Wd), ([] : List Ev), fc, false, false, true, rfl, (by dsimp only; omega), (by first | omega | (simp; done) | (simp; omega))⟩, rfl⟩
        ·
         dsimp only
         subst he; subst hl
         refine h_seq<|h_seq<|H<|G Z K<|o_leno Z K<|o_cmp Z Z Z K<|o_nil<|h_cond Z (fun c23 => ?_) (fun c23 => ?_)
         ·
          refine h_skip<|h_block<|H<|G Z K<|o_build Z Z K<|o_buildSlicep Z (by rfl) (by rfl) (by rfl) (by rfl) K ?_
          refine o_append 0 Z Z Z (Src.v _ _) (okB_one rfl) (by simp) (by simp [chunk_length]; try omega) K fun x24 c25 hc26 => ?_
          refine S Z K<|o_nil ?_
          have hlt : L.length < 21 := by have h9 := c23; simp at h9; omega
          refine back rfl (.inr ⟨x24, c25, L ++ [upV], (L ++ [upV]).map encV, _, rfl, (by simp [chunk_length]), (by simp; try omega), (by simpa [chunk_length] using hc26)⟩) (by dsimp only; simp; try omega) (by dsimp only; rw [List.map_append]; exact (.cons_cons _ (.cons_cons _ (.cons_cons _ (.cons_cons _ (.cons_cons _ (.refl _))))))) (subT.cons Z (subT.cons Z (subT.cons Z subT.nil)))
         ·
          refine h_exit<|h_seq<|h_perm ((List.perm_append_comm (l₁ := [_]) (l₂ := [_, _, _])).append_right [_])<|h_frzR (⟨w.alive, w.ever, w.blocks, w.bal, w.lev⟩ : Wd) fc x3 b1 b2 c1 c2 (by simp [hlb]) (by simp [hll]) hc1 hc2 (rest := [(ob, .arr 41 8 (L.map encV) ce), (x2, .box 32 [I 0, I 0, V [] true, V [] true, V [] true])]) ?_
          refine H<|o_freeze 1 13 rfl rfl (by simp) (by assumption) ?_
          refine O 0 Z Z Z Z K<|G Z K ?_
          exact o_store 1 Z Z Z Z Z Z<|S Z K<|o_nil<|h_ret<|retG [] (.cons (resC 1 rfl rfl rfl) (.cons (resT rfl) .nil)) (List.nil_sublist _) ⟨_, rfl, ⟨(⟨w.alive, w.ever, w.blocks, w.bal, w.lev⟩ : Wd), L, fc, false, false, false, rfl, (by dsimp only; omega), (by first | omega | (simp; done) | (simp; omega))⟩, rfl⟩
  ·
   have g5 : _ = false := g5
   refine U Z Z g5 K<|U Z Z g5 K<|o_pickf Z g5 rfl K<|o_nil<|h_condf Z Z<|h_skip<|h_seq<|h_seq<|H<|G Z K<|o_nil<|h_block ?_
   refine h_seq<|H<|o_cmp Z Z Z K<|S Z K<|o_nil<|h_cond Z (fun c28 => ?_) (fun c28 => ?_)
   ·
    refine H<|G Z K<|F Z Z K K ?_
    refine o_store 0 Z Z Z Z Z Z<|o_nil<|h_seq<|h_frzR (⟨b, w.ever, w.blocks, w.bal, w.lev⟩ : Wd) fc x3 b1 b2 c1 c2 (by simp [hlb]) (by simp [hll]) hc1 hc2 (rest := [(x2, .box 32 [I 0, I 0, V [] true, V [] true, V [] true]), (x1, .box 32 (cellsW w f1 f2 f3))]) ?_
    refine H<|O 0 Z Z Z Z K<|G Z K ?_
    exact o_store 1 Z Z Z Z Z Z<|S Z K<|o_nil<|h_ret<|retG [] (.cons (resC 1 rfl rfl rfl) (.cons (resT rfl) .nil)) (List.nil_sublist _) ⟨_, rfl, ⟨(⟨b, w.ever, w.blocks, w.bal, w.lev⟩ : Wd), ([] : List Ev), fc, false, false, true, rfl, (by dsimp only; omega), (by first | omega | (simp; done) | (simp; omega))⟩, rfl⟩
   ·
    refine h_seq<|H<|o_cmp Z Z Z K<|S Z K<|o_nil<|h_cond Z (fun c30 => ?_) (fun c30 => ?_)
    ·
     refine H<|G Z K<|F Z Z K K ?_
     refine o_store 0 Z Z Z Z Z Z<|o_nil<|h_seq<|h_frzR (⟨w.alive, b, w.blocks, w.bal, w.lev⟩ : Wd) fc x3 b1 b2 c1 c2 (by simp [hlb]) (by simp [hll]) hc1 hc2 (rest := [(x2, .box 32 [I 0, I 0, V [] true, V [] true, V [] true]), (x1, .box 32 (cellsW w f1 f2 f3))]) ?_
     refine H<|O 0 Z Z Z Z K<|G Z K ?_
     exact o_store 1 Z Z Z Z Z Z<|S Z K<|o_nil<|h_ret<|retG [] (.cons (resC 1 rfl rfl rfl) (.cons (resT rfl) .nil)) (List.nil_sublist _) ⟨_, rfl, ⟨(⟨w.alive, b, w.blocks, w.bal, w.lev⟩ : Wd), ([] : List Ev), fc, false, false, true, rfl, (by dsimp only; omega), (by first | omega | (simp; done) | (simp; omega))⟩, rfl⟩
    ·
     refine h_seq<|H<|o_cmp Z Z Z K<|S Z K<|o_nil<|h_cond Z (fun c32 => ?_) (fun c32 => ?_)
     ·
      refine h_draw _ (.cons_cons _ (.cons _ (.cons _ (.cons_cons _ (.cons_cons _ (List.nil_sublist _)))))) [(0, .flo), (1, .box), (2, .flo), (3, .flo), (4, .flo), (5, .flo), (6, .sto)] mixed (by kernel_rfl)<|C Z Z (fun jj => F Z Z K K jj)<|c_box Z Z (fun _ _ _ _ jj => O 0 Z Z Z Z K jj)<|C Z Z (fun jj => G Z K jj)<|C Z Z (fun jj => o_call1 Z Z EntC.out K (pick42_spec _ _ hc K) jj)<|C Z Z (fun jj => G Z K jj)<|C Z Z (fun jj => o_idxo Z Z (by omega) (by first | omega | (rw [List.length_map]; have := hlq hbe; have := pickM_range (c := c) (n := (((l.map encV).length : Nat) : Int)) (by rw [List.length_map]; omega); rw [List.length_map] at this; omega)) K jj) ?_
      refine c_sto (.cons_cons _ (.cons _ (.cons _ (.cons_cons _ (.cons_cons _ (List.nil_sublist _)))))) rfl rfl (fun _ _ _ _ jj => o_storee 1 Z Z (by first | exact eltVo (by omega) | exact eltW (by omega)) rfl rfl rfl rfl (by first | (simp [encV]; done) | (simp [encI]; done)) jj) ?_
      refine c_nil<|h_heap (h' := [(x3, .box 32 [I w.alive, I w.ever, V (w.blocks.map encB) fc, .os b1 1 0 8 c1, .os b2 1 0 8 c2]), (b1, .arr 3 1 ((w.bal.set (pickM c 8).toNat b).map encI) c1), (b2, .arr 3 1 (w.lev.map encI) c2), (x2, .box 32 [I 0, I 0, V [] true, V [] true, V [] true]), (x1, .box 32 (cellsW w f1 f2 f3))]) (by simp only [Nat.zero_add, List.map_set]; rfl) ?_
      refine h_seq<|h_frzR (⟨w.alive, w.ever, w.blocks, (w.bal.set (pickM c 8).toNat b), w.lev⟩ : Wd) fc x3 b1 b2 c1 c2 (by simp [hlb]) (by simp [hll]) hc1 hc2 (rest := [(x2, .box 32 [I 0, I 0, V [] true, V [] true, V [] true]), (x1, .box 32 (cellsW w f1 f2 f3))]) ?_
      refine H<|O 0 Z Z Z Z K<|G Z K ?_
      exact o_store 1 Z Z Z Z Z Z<|S Z K<|o_nil<|h_ret<|retG [] (.cons (resC 1 rfl rfl rfl) (.cons (resT rfl) .nil)) (List.nil_sublist _) ⟨_, rfl, ⟨(⟨w.alive, w.ever, w.blocks, (w.bal.set (pickM c 8).toNat b), w.lev⟩ : Wd), ([] : List Ev), fc, false, false, true, rfl, (by dsimp only; omega), (by first | omega | (simp; done) | (simp; omega))⟩, rfl⟩
     ·
      refine h_seq<|H<|o_cmp Z Z Z K<|S Z K<|o_nil<|h_cond Z (fun c34 => ?_) (fun c34 => ?_)
      ·
       refine h_draw _ (.cons_cons _ (.cons _ (.cons _ (.cons_cons _ (.cons_cons _ (List.nil_sublist _)))))) [(0, .flo), (1, .box), (2, .flo), (3, .flo), (4, .flo), (5, .flo), (6, .sto)] mixed (by kernel_rfl)<|C Z Z (fun jj => F Z Z K K jj)<|c_box Z Z (fun _ _ _ _ jj => O 0 Z Z Z Z K jj)<|C Z Z (fun jj => G Z K jj)<|C Z Z (fun jj => o_call1 Z Z EntC.out K (pick42_spec _ _ hc K) jj)<|C Z Z (fun jj => G Z K jj)<|C Z Z (fun jj => o_idxo Z Z (by omega) (by first | omega | (rw [List.length_map]; have := hlq hbe; have := pickM_range (c := c) (n := (((l.map encV).length : Nat) : Int)) (by rw [List.length_map]; omega); rw [List.length_map] at this; omega)) K jj) ?_
       refine c_sto (.cons_cons _ (.cons _ (.cons _ (.cons_cons _ (.cons_cons _ (List.nil_sublist _)))))) rfl rfl (fun _ _ _ _ jj => o_storee 2 Z Z (by first | exact eltVo (by omega) | exact eltW (by omega)) rfl rfl rfl rfl (by first | (simp [encV]; done) | (simp [encI]; done)) jj) ?_
       refine c_nil<|h_heap (h' := [(x3, .box 32 [I w.alive, I w.ever, V (w.blocks.map encB) fc, .os b1 1 0 8 c1, .os b2 1 0 8 c2]), (b1, .arr 3 1 (w.bal.map encI) c1), (b2, .arr 3 1 ((w.lev.set (pickM c 8).toNat b).map encI) c2), (x2, .box 32 [I 0, I 0, V [] true, V [] true, V [] true]), (x1, .box 32 (cellsW w f1 f2 f3))]) (by simp only [Nat.zero_add, List.map_set]; rfl) ?_
       refine h_seq<|h_frzR (⟨w.alive, w.ever, w.blocks, w.bal, (w.lev.set (pickM c 8).toNat b)⟩ : Wd) fc x3 b1 b2 c1 c2 (by simp [hlb]) (by simp [hll]) hc1 hc2 (rest := [(x2, .box 32 [I 0, I 0, V [] true, V [] true, V [] true]), (x1, .box 32 (cellsW w f1 f2 f3))]) ?_
       refine H<|O 0 Z Z Z Z K<|G Z K ?_
       exact o_store 1 Z Z Z Z Z Z<|S Z K<|o_nil<|h_ret<|retG [] (.cons (resC 1 rfl rfl rfl) (.cons (resT rfl) .nil)) (List.nil_sublist _) ⟨_, rfl, ⟨(⟨w.alive, w.ever, w.blocks, w.bal, (w.lev.set (pickM c 8).toNat b)⟩ : Wd), ([] : List Ev), fc, false, false, true, rfl, (by dsimp only; omega), (by first | omega | (simp; done) | (simp; omega))⟩, rfl⟩
      ·
       refine h_seq<|H<|o_cmp Z Z Z K<|S Z K<|o_nil<|h_cond Z (fun c36 => ?_) (fun c36 => ?_)
       ·
        refine H<|F Z Z K K<|O 0 Z Z Z Z K<|G Z K<|o_quo Z Z K (by first | exact tdiv13 ha | (unfold in64; (try dsimp only); omega)) K ?_
        refine G Z K<|G Z K<|o_callN Z Z EntC.out K (bent13_spec w.blocks (by omega) fc (a.tdiv 13) b c (tdiv13 ha) hb hc) fun v h' hr => ?_
        obtain ⟨⟨lb, fb, rfl, hlb2⟩, rfl⟩ := hr
        refine F Z Z K K ?_
        refine o_store 0 Z Z Z Z Z Z<|o_nil<|h_seq<|h_frzR (⟨w.alive, w.ever, lb, w.bal, w.lev⟩ : Wd) fb x3 b1 b2 c1 c2 (by simp [hlb]) (by simp [hll]) hc1 hc2 (rest := [(x2, .box 32 [I 0, I 0, V [] true, V [] true, V [] true]), (x1, .box 32 (cellsW w f1 f2 f3))]) ?_
        refine H<|O 0 Z Z Z Z K<|G Z K ?_
        exact o_store 1 Z Z Z Z Z Z<|S Z K<|o_nil<|h_ret<|retG [] (.cons (resC 1 rfl rfl rfl) (.cons (resT rfl) .nil)) (List.nil_sublist _) ⟨_, rfl, ⟨(⟨w.alive, w.ever, lb, w.bal, w.lev⟩ : Wd), ([] : List Ev), fb, false, false, true, rfl, (by dsimp only; omega), (by first | omega | (simp; done) | (simp; omega))⟩, rfl⟩
       ·
        refine h_block<|h_famS (ι := (BvI) ⊕ (BvJ)) (fun i => match i with | .inl i => [(10, .ptr x2 0), (12, .ptr x3 0), (13, V [] true)] | .inr i => [(10, .ptr x2 0), (12, .ptr x3 0), (13, .os i.ob 8 0 i.len i.c)]) (fun i => match i with | .inl i => (x3, .box 32 [I w.alive, I w.ever, V (w.blocks.map encB) fc, .os b1 1 0 8 c1, .os b2 1 0 8 c2]) :: (b1, .arr 3 1 (w.bal.map encI) c1) :: (b2, .arr 3 1 (w.lev.map encI) c2) :: (x2, .box 32 [I 0, I 0, V [] true, V [] true, V [] true]) :: [] | .inr i => (i.ob, .arr 41 8 i.es i.c) :: (x3, .box 32 [I w.alive, I w.ever, V (w.blocks.map encB) fc, .os b1 1 0 8 c1, .os b2 1 0 8 c2]) :: (b1, .arr 3 1 (w.bal.map encI) c1) :: (b2, .arr 3 1 (w.lev.map encI) c2) :: (x2, .box 32 [I 0, I 0, V [] true, V [] true, V [] true]) :: []) (fun i => match i with | .inl i => 22 | .inr i => 21 - i.L.length) (.inl ⟨0, rfl⟩) (.cons_cons _ (.cons_cons _ (.cons_cons _ (.cons_cons _ (.cons _ (.refl _)))))) (subT.cons Z (subT.cons Z (subT.cons Z subT.nil))) ?_
        rintro (⟨k, hk⟩ | ⟨ob, ce, L, es, len, he, hl, hb21, hce⟩)
        ·
         dsimp only
         refine h_seq<|h_seq<|H<|G Z K<|o_len Z K<|o_cmp Z Z Z K<|o_nil<|h_cond Z (fun c38 => ?_) (fun c38 => ?_)
         ·
          refine h_skip<|h_block<|H<|G Z K<|o_build Z Z K<|o_buildSlicep Z (by rfl) (by rfl) (by rfl) (by rfl) K ?_
          refine o_appendv Z Z (Src.v _ _) (okB_one rfl) (by simp [chunk]) (by rw [chunk_length]; omega) (by simp [chunk_length]; try omega) K fun x39 c40 hc41 => ?_
          refine S Z K<|o_nil<|back rfl (.inr ⟨x39, c40, ([] : List Ev) ++ [upV], (([] : List Ev) ++ [upV]).map encV, _, rfl, (by simp [chunk_length]), (by simp; try omega), (by simpa [chunk_length] using hc41)⟩) (by dsimp only; simp; try omega) (.cons_cons _ (.cons_cons _ (.cons_cons _ (.cons_cons _ (.cons_cons _ (.refl _)))))) (subT.cons Z (subT.cons Z (subT.cons Z subT.nil)))
         ·
          refine h_exit<|h_seq<|h_frzR (⟨w.alive, w.ever, w.blocks, w.bal, w.lev⟩ : Wd) fc x3 b1 b2 c1 c2 (by simp [hlb]) (by simp [hll]) hc1 hc2 (rest := [(x2, .box 32 [I 0, I 0, V [] true, V [] true, V [] true])]) ?_
          refine H<|O 0 Z Z Z Z K<|G Z K ?_
          exact o_store 1 Z Z Z Z Z Z<|S Z K<|o_nil<|h_ret<|retG [] (.cons (resC 1 rfl rfl rfl) (.cons (resT rfl) .nil)) (List.nil_sublist _) ⟨_, rfl, ⟨(⟨w.alive, w.ever, w.blocks, w.bal, w.lev⟩ : Wd), ([] : List Ev), fc, false, false, true, rfl, (by dsimp only; omega), (by first | omega | (simp; done) | (simp; omega))⟩, rfl⟩
        ·
         dsimp only
         subst he; subst hl
         refine h_seq<|h_seq<|H<|G Z K<|o_leno Z K<|o_cmp Z Z Z K<|o_nil<|h_cond Z (fun c43 => ?_) (fun c43 => ?_)
         ·
          refine h_skip<|h_block<|H<|G Z K<|o_build Z Z K<|o_buildSlicep Z (by rfl) (by rfl) (by rfl) (by rfl) K ?_
          refine o_append 0 Z Z Z (Src.v _ _) (okB_one rfl) (by simp) (by simp [chunk_length]; try omega) K fun x44 c45 hc46 => ?_
          refine S Z K<|o_nil ?_
          have hlt : L.length < 21 := by have h9 := c43; simp at h9; omega
          refine back rfl (.inr ⟨x44, c45, L ++ [upV], (L ++ [upV]).map encV, _, rfl, (by simp [chunk_length]), (by simp; try omega), (by simpa [chunk_length] using hc46)⟩) (by dsimp only; simp; try omega) (by dsimp only; rw [List.map_append]; exact (.cons_cons _ (.cons_cons _ (.cons_cons _ (.cons_cons _ (.cons_cons _ (.refl _))))))) (subT.cons Z (subT.cons Z (subT.cons Z subT.nil)))
         ·
          refine h_exit<|h_seq<|h_perm ((List.perm_append_comm (l₁ := [_]) (l₂ := [_, _, _])).append_right [_])<|h_frzR (⟨w.alive, w.ever, w.blocks, w.bal, w.lev⟩ : Wd) fc x3 b1 b2 c1 c2 (by simp [hlb]) (by simp [hll]) hc1 hc2 (rest := [(ob, .arr 41 8 (L.map encV) ce), (x2, .box 32 [I 0, I 0, V [] true, V [] true, V [] true])]) ?_
          refine H<|o_freeze 1 13 rfl rfl (by simp) (by assumption) ?_
          refine O 0 Z Z Z Z K<|G Z K ?_
          exact o_store 1 Z Z Z Z Z Z<|S Z K<|o_nil<|h_ret<|retG [] (.cons (resC 1 rfl rfl rfl) (.cons (resT rfl) .nil)) (List.nil_sublist _) ⟨_, rfl, ⟨(⟨w.alive, w.ever, w.blocks, w.bal, w.lev⟩ : Wd), L, fc, false, false, false, rfl, (by dsimp only; omega), (by first | omega | (simp; done) | (simp; omega))⟩, rfl⟩
 ·
  refine h_seq<|H<|O 1 Z Z Z Z K<|o_callN Z Z EntC.out K (copy42_spec w f1 f2 f3 (by omega) hv.lb hv.ll) fun v h' hr => ?_
  obtain ⟨fc, b1, b2, c1, c2, hc1, hc2, rfl, rfl⟩ := hr
  refine o_alloc K fun x47 => ?_
  refine o_store 0 Z Z Z Z Z Z<|o_nil<|h_seq<|H<|o_buildSlicep Z (by rfl) (by rfl) (by rfl) (by rfl) K ?_
  refine G Z K<|o_appendo Z Z okB_V (by rw [List.length_map]; exact hlq hbe) (by simp <;> omega) K fun x48 c49 hc50 => ?_
  refine S Z K<|o_nil<|h_seq<|H<|G Z K<|o_call1 Z Z EntC.out K (pick42_spec _ _ ha K)<|S Z K<|o_nil<|h_seq<|h_seq<|H<|G Z K ?_
  refine o_cmp Z Z Z K<|G Z K<|o_guard Z Z K (fun g52 => ?_) (fun g52 => ?_)
  ·
   have g52 : _ = true := g52
   refine G Z K<|W Z Z g52 K<|o_leno Z K<|W Z Z g52 K<|o_cmp Z Z Z K<|o_pickt Z g52 rfl K<|o_nil<|h_condt Z (by rw [List.length_map]; exact decide_eq_true (by have := hlq hbe; omega)) ?_
   refine h_seq<|H<|G Z K<|G Z K<|G Z K<|o_leno Z K<|o_call1 Z Z EntC.out K (pick42_spec _ _ hc (by rw [List.length_map]; have := hlq hbe; omega))<|o_idxo Z Z (pickM_range (by rw [List.length_map]; have := hlq hbe; omega)).1 (by first | omega | (rw [List.length_map]; have := hlq hbe; have := pickM_range (c := c) (n := (((l.map encV).length : Nat) : Int)) (by rw [List.length_map]; omega); rw [List.length_map] at this; omega)) K ?_
   refine S Z K<|o_nil ?_
   obtain ⟨q, hq⟩ : ∃ q, q = pickM c (((l.map encV).length : Nat) : Int) := ⟨_, rfl⟩
   have hlp := hlq hbe
   have hqr := pickM_range (c := c) (n := (((l.map encV).length : Nat) : Int)) (by rw [List.length_map]; omega)
   rw [← hq] at hqr ⊢
   rw [List.length_map] at hqr
   refine h_seq<|h_seq<|H<|G Z K<|o_nil<|h_block<|h_seq<|H<|o_cmp Z Z Z K<|S Z K<|o_nil<|h_cond Z (fun c55 => ?_) (fun c55 => ?_)
   ·
    refine H<|G Z K<|G Z K<|o_nile Z K<|o_faddre Z Z K K ?_
    refine o_storee 0 Z Z (by first | exact eltVo (by omega) | exact eltW (by omega)) rfl rfl rfl rfl (by first | (simp [encV]; done) | (simp [encI]; done)) ?_
    refine o_nil<|h_heap (h' := [(x48, .arr 41 8 ((l.set q.toNat ({ (l.getD q.toNat dE) with kind := b } : Ev)).map encV) c49), (x47, .box 32 [I w.alive, I w.ever, V (w.blocks.map encB) fc, .os b1 1 0 8 c1, .os b2 1 0 8 c2]), (b1, .arr 3 1 (w.bal.map encI) c1), (b2, .arr 3 1 (w.lev.map encI) c2), (x2, .box 32 [I 0, I 0, V [] true, V [] true, V [] true]), (x1, .box 32 (cellsW w f1 f2 f3))]) (by simp only [Nat.zero_add, List.map_set]; rfl) ?_
    refine h_seq<|h_perm ((List.perm_append_comm (l₁ := [_]) (l₂ := [_, _, _])).append_right [_, _])<|h_frzR (⟨w.alive, w.ever, w.blocks, w.bal, w.lev⟩ : Wd) fc x47 b1 b2 c1 c2 (by simp [hlb]) (by simp [hll]) hc1 hc2 (rest := [(x48, .arr 41 8 ((l.set q.toNat ({ (l.getD q.toNat dE) with kind := b } : Ev)).map encV) c49), (x2, .box 32 [I 0, I 0, V [] true, V [] true, V [] true]), (x1, .box 32 (cellsW w f1 f2 f3))]) ?_
    refine H<|o_freeze 1 13 rfl rfl (by simp) (by assumption) ?_
    refine O 0 Z Z Z Z K<|G Z K ?_
    exact o_store 1 Z Z Z Z Z Z<|S Z K<|o_nil<|h_ret<|retG [] (.cons (resC 1 rfl rfl rfl) (.cons (resT rfl) .nil)) (List.nil_sublist _) ⟨_, rfl, ⟨(⟨w.alive, w.ever, w.blocks, w.bal, w.lev⟩ : Wd), (l.set q.toNat ({ (l.getD q.toNat dE) with kind := b } : Ev)), fc, false, false, false, rfl, (by dsimp only; omega), (by first | omega | (simp; done) | (simp; omega))⟩, rfl⟩
   ·
    refine h_seq<|H<|o_cmp Z Z Z K<|S Z K<|o_nil<|h_cond Z (fun c57 => ?_) (fun c57 => ?_)
    ·
     refine H<|G Z K<|G Z K<|o_nile Z K<|o_faddre Z Z K K ?_
     refine o_storee 0 Z Z (by first | exact eltVo (by omega) | exact eltW (by omega)) rfl rfl rfl rfl (by first | (simp [encV]; done) | (simp [encI]; done)) ?_
     refine o_nil<|h_heap (h' := [(x48, .arr 41 8 ((l.set q.toNat ({ (l.getD q.toNat dE) with t := b } : Ev)).map encV) c49), (x47, .box 32 [I w.alive, I w.ever, V (w.blocks.map encB) fc, .os b1 1 0 8 c1, .os b2 1 0 8 c2]), (b1, .arr 3 1 (w.bal.map encI) c1), (b2, .arr 3 1 (w.lev.map encI) c2), (x2, .box 32 [I 0, I 0, V [] true, V [] true, V [] true]), (x1, .box 32 (cellsW w f1 f2 f3))]) (by simp only [Nat.zero_add, List.map_set]; rfl) ?_
     refine h_seq<|h_perm ((List.perm_append_comm (l₁ := [_]) (l₂ := [_, _, _])).append_right [_, _])<|h_frzR (⟨w.alive, w.ever, w.blocks, w.bal, w.lev⟩ : Wd) fc x47 b1 b2 c1 c2 (by simp [hlb]) (by simp [hll]) hc1 hc2 (rest := [(x48, .arr 41 8 ((l.set q.toNat ({ (l.getD q.toNat dE) with t := b } : Ev)).map encV) c49), (x2, .box 32 [I 0, I 0, V [] true, V [] true, V [] true]), (x1, .box 32 (cellsW w f1 f2 f3))]) ?_
     refine H<|o_freeze 1 13 rfl rfl (by simp) (by assumption) ?_
     refine O 0 Z Z Z Z K<|G Z K ?_
     exact o_store 1 Z Z Z Z Z Z<|S Z K<|o_nil<|h_ret<|retG [] (.cons (resC 1 rfl rfl rfl) (.cons (resT rfl) .nil)) (List.nil_sublist _) ⟨_, rfl, ⟨(⟨w.alive, w.ever, w.blocks, w.bal, w.lev⟩ : Wd), (l.set q.toNat ({ (l.getD q.toNat dE) with t := b } : Ev)), fc, false, false, false, rfl, (by dsimp only; omega), (by first | omega | (simp; done) | (simp; omega))⟩, rfl⟩
    ·
     refine h_seq<|H<|o_cmp Z Z Z K<|S Z K<|o_nil<|h_cond Z (fun c59 => ?_) (fun c59 => ?_)
     ·
      refine H<|G Z K<|G Z K<|o_nile Z K<|o_faddre Z Z K K ?_
      refine o_storee 0 Z Z (by first | exact eltVo (by omega) | exact eltW (by omega)) rfl rfl rfl rfl (by first | (simp [encV]; done) | (simp [encI]; done)) ?_
      refine o_nil<|h_heap (h' := [(x48, .arr 41 8 ((l.set q.toNat ({ (l.getD q.toNat dE) with a := b } : Ev)).map encV) c49), (x47, .box 32 [I w.alive, I w.ever, V (w.blocks.map encB) fc, .os b1 1 0 8 c1, .os b2 1 0 8 c2]), (b1, .arr 3 1 (w.bal.map encI) c1), (b2, .arr 3 1 (w.lev.map encI) c2), (x2, .box 32 [I 0, I 0, V [] true, V [] true, V [] true]), (x1, .box 32 (cellsW w f1 f2 f3))]) (by simp only [Nat.zero_add, List.map_set]; rfl) ?_
      refine h_seq<|h_perm ((List.perm_append_comm (l₁ := [_]) (l₂ := [_, _, _])).append_right [_, _])<|h_frzR (⟨w.alive, w.ever, w.blocks, w.bal, w.lev⟩ : Wd) fc x47 b1 b2 c1 c2 (by simp [hlb]) (by simp [hll]) hc1 hc2 (rest := [(x48, .arr 41 8 ((l.set q.toNat ({ (l.getD q.toNat dE) with a := b } : Ev)).map encV) c49), (x2, .box 32 [I 0, I 0, V [] true, V [] true, V [] true]), (x1, .box 32 (cellsW w f1 f2 f3))]) ?_
      refine H<|o_freeze 1 13 rfl rfl (by simp) (by assumption) ?_
      refine O 0 Z Z Z Z K<|G Z K ?_
      exact o_store 1 Z Z Z Z Z Z<|S Z K<|o_nil<|h_ret<|retG [] (.cons (resC 1 rfl rfl rfl) (.cons (resT rfl) .nil)) (List.nil_sublist _) ⟨_, rfl, ⟨(⟨w.alive, w.ever, w.blocks, w.bal, w.lev⟩ : Wd), (l.set q.toNat ({ (l.getD q.toNat dE) with a := b } : Ev)), fc, false, false, false, rfl, (by dsimp only; omega), (by first | omega | (simp; done) | (simp; omega))⟩, rfl⟩
     ·
      refine h_seq<|H<|o_cmp Z Z Z K<|S Z K<|o_nil<|h_cond Z (fun c61 => ?_) (fun c61 => ?_)
      ·
       refine H<|G Z K<|G Z K<|o_nile Z K<|o_faddre Z Z K K ?_
       refine o_storee 0 Z Z (by first | exact eltVo (by omega) | exact eltW (by omega)) rfl rfl rfl rfl (by first | (simp [encV]; done) | (simp [encI]; done)) ?_
       refine o_nil<|h_heap (h' := [(x48, .arr 41 8 ((l.set q.toNat ({ (l.getD q.toNat dE) with b := b } : Ev)).map encV) c49), (x47, .box 32 [I w.alive, I w.ever, V (w.blocks.map encB) fc, .os b1 1 0 8 c1, .os b2 1 0 8 c2]), (b1, .arr 3 1 (w.bal.map encI) c1), (b2, .arr 3 1 (w.lev.map encI) c2), (x2, .box 32 [I 0, I 0, V [] true, V [] true, V [] true]), (x1, .box 32 (cellsW w f1 f2 f3))]) (by simp only [Nat.zero_add, List.map_set]; rfl) ?_
       refine h_seq<|h_perm ((List.perm_append_comm (l₁ := [_]) (l₂ := [_, _, _])).append_right [_, _])<|h_frzR (⟨w.alive, w.ever, w.blocks, w.bal, w.lev⟩ : Wd) fc x47 b1 b2 c1 c2 (by simp [hlb]) (by simp [hll]) hc1 hc2 (rest := [(x48, .arr 41 8 ((l.set q.toNat ({ (l.getD q.toNat dE) with b := b } : Ev)).map encV) c49), (x2, .box 32 [I 0, I 0, V [] true, V [] true, V [] true]), (x1, .box 32 (cellsW w f1 f2 f3))]) ?_
       refine H<|o_freeze 1 13 rfl rfl (by simp) (by assumption) ?_
       refine O 0 Z Z Z Z K<|G Z K ?_
       exact o_store 1 Z Z Z Z Z Z<|S Z K<|o_nil<|h_ret<|retG [] (.cons (resC 1 rfl rfl rfl) (.cons (resT rfl) .nil)) (List.nil_sublist _) ⟨_, rfl, ⟨(⟨w.alive, w.ever, w.blocks, w.bal, w.lev⟩ : Wd), (l.set q.toNat ({ (l.getD q.toNat dE) with b := b } : Ev)), fc, false, false, false, rfl, (by dsimp only; omega), (by first | omega | (simp; done) | (simp; omega))⟩, rfl⟩
      ·
       refine h_seq<|H<|o_cmp Z Z Z K<|S Z K<|o_nil<|h_cond Z (fun c63 => ?_) (fun c63 => ?_)
       ·
        refine H<|G Z K<|G Z K<|o_nile Z K<|o_faddre Z Z K K ?_
        refine o_storee 0 Z Z (by first | exact eltVo (by omega) | exact eltW (by omega)) rfl rfl rfl rfl (by first | (simp [encV]; done) | (simp [encI]; done)) ?_
        refine o_nil<|h_heap (h' := [(x48, .arr 41 8 ((l.set q.toNat ({ (l.getD q.toNat dE) with c := b } : Ev)).map encV) c49), (x47, .box 32 [I w.alive, I w.ever, V (w.blocks.map encB) fc, .os b1 1 0 8 c1, .os b2 1 0 8 c2]), (b1, .arr 3 1 (w.bal.map encI) c1), (b2, .arr 3 1 (w.lev.map encI) c2), (x2, .box 32 [I 0, I 0, V [] true, V [] true, V [] true]), (x1, .box 32 (cellsW w f1 f2 f3))]) (by simp only [Nat.zero_add, List.map_set]; rfl) ?_
        refine h_seq<|h_perm ((List.perm_append_comm (l₁ := [_]) (l₂ := [_, _, _])).append_right [_, _])<|h_frzR (⟨w.alive, w.ever, w.blocks, w.bal, w.lev⟩ : Wd) fc x47 b1 b2 c1 c2 (by simp [hlb]) (by simp [hll]) hc1 hc2 (rest := [(x48, .arr 41 8 ((l.set q.toNat ({ (l.getD q.toNat dE) with c := b } : Ev)).map encV) c49), (x2, .box 32 [I 0, I 0, V [] true, V [] true, V [] true]), (x1, .box 32 (cellsW w f1 f2 f3))]) ?_
        refine H<|o_freeze 1 13 rfl rfl (by simp) (by assumption) ?_
        refine O 0 Z Z Z Z K<|G Z K ?_
        exact o_store 1 Z Z Z Z Z Z<|S Z K<|o_nil<|h_ret<|retG [] (.cons (resC 1 rfl rfl rfl) (.cons (resT rfl) .nil)) (List.nil_sublist _) ⟨_, rfl, ⟨(⟨w.alive, w.ever, w.blocks, w.bal, w.lev⟩ : Wd), (l.set q.toNat ({ (l.getD q.toNat dE) with c := b } : Ev)), fc, false, false, false, rfl, (by dsimp only; omega), (by first | omega | (simp; done) | (simp; omega))⟩, rfl⟩
       ·
        refine h_seq<|H<|o_cmp Z Z Z K<|S Z K<|o_nil<|h_cond Z (fun c65 => ?_) (fun c65 => ?_)
        ·
         refine H<|G Z K<|G Z K<|o_nile Z K<|o_faddre Z Z K K ?_
         refine o_storee 0 Z Z (by first | exact eltVo (by omega) | exact eltW (by omega)) rfl rfl rfl rfl (by first | (simp [encV]; done) | (simp [encI]; done)) ?_
         refine o_nil<|h_heap (h' := [(x48, .arr 41 8 ((l.set q.toNat ({ (l.getD q.toNat dE) with m := b } : Ev)).map encV) c49), (x47, .box 32 [I w.alive, I w.ever, V (w.blocks.map encB) fc, .os b1 1 0 8 c1, .os b2 1 0 8 c2]), (b1, .arr 3 1 (w.bal.map encI) c1), (b2, .arr 3 1 (w.lev.map encI) c2), (x2, .box 32 [I 0, I 0, V [] true, V [] true, V [] true]), (x1, .box 32 (cellsW w f1 f2 f3))]) (by simp only [Nat.zero_add, List.map_set]; rfl) ?_
         refine h_seq<|h_perm ((List.perm_append_comm (l₁ := [_]) (l₂ := [_, _, _])).append_right [_, _])<|h_frzR (⟨w.alive, w.ever, w.blocks, w.bal, w.lev⟩ : Wd) fc x47 b1 b2 c1 c2 (by simp [hlb]) (by simp [hll]) hc1 hc2 (rest := [(x48, .arr 41 8 ((l.set q.toNat ({ (l.getD q.toNat dE) with m := b } : Ev)).map encV) c49), (x2, .box 32 [I 0, I 0, V [] true, V [] true, V [] true]), (x1, .box 32 (cellsW w f1 f2 f3))]) ?_
         refine H<|o_freeze 1 13 rfl rfl (by simp) (by assumption) ?_
         refine O 0 Z Z Z Z K<|G Z K ?_
         exact o_store 1 Z Z Z Z Z Z<|S Z K<|o_nil<|h_ret<|retG [] (.cons (resC 1 rfl rfl rfl) (.cons (resT rfl) .nil)) (List.nil_sublist _) ⟨_, rfl, ⟨(⟨w.alive, w.ever, w.blocks, w.bal, w.lev⟩ : Wd), (l.set q.toNat ({ (l.getD q.toNat dE) with m := b } : Ev)), fc, false, false, false, rfl, (by dsimp only; omega), (by first | omega | (simp; done) | (simp; omega))⟩, rfl⟩
        ·
         refine H<|G Z K<|G Z K<|o_nile Z K<|o_faddre Z Z K K<|o_faddre Z Z K K ?_
         refine o_storee 0 Z Z (by first | exact eltVo (by omega) | exact eltW (by omega)) rfl rfl rfl rfl (by first | (simp [encV]; done) | (simp [encI]; done)) ?_
         refine o_nil<|h_heap (h' := [(x48, .arr 41 8 ((l.set q.toNat ({ (l.getD q.toNat dE) with to := b } : Ev)).map encV) c49), (x47, .box 32 [I w.alive, I w.ever, V (w.blocks.map encB) fc, .os b1 1 0 8 c1, .os b2 1 0 8 c2]), (b1, .arr 3 1 (w.bal.map encI) c1), (b2, .arr 3 1 (w.lev.map encI) c2), (x2, .box 32 [I 0, I 0, V [] true, V [] true, V [] true]), (x1, .box 32 (cellsW w f1 f2 f3))]) (by simp only [Nat.zero_add, List.map_set]; rfl) ?_
         refine h_seq<|h_perm ((List.perm_append_comm (l₁ := [_]) (l₂ := [_, _, _])).append_right [_, _])<|h_frzR (⟨w.alive, w.ever, w.blocks, w.bal, w.lev⟩ : Wd) fc x47 b1 b2 c1 c2 (by simp [hlb]) (by simp [hll]) hc1 hc2 (rest := [(x48, .arr 41 8 ((l.set q.toNat ({ (l.getD q.toNat dE) with to := b } : Ev)).map encV) c49), (x2, .box 32 [I 0, I 0, V [] true, V [] true, V [] true]), (x1, .box 32 (cellsW w f1 f2 f3))]) ?_
         refine H<|o_freeze 1 13 rfl rfl (by simp) (by assumption) ?_
         refine O 0 Z Z Z Z K<|G Z K ?_
         exact o_store 1 Z Z Z Z Z Z<|S Z K<|o_nil<|h_ret<|retG [] (.cons (resC 1 rfl rfl rfl) (.cons (resT rfl) .nil)) (List.nil_sublist _) ⟨_, rfl, ⟨(⟨w.alive, w.ever, w.blocks, w.bal, w.lev⟩ : Wd), (l.set q.toNat ({ (l.getD q.toNat dE) with to := b } : Ev)), fc, false, false, false, rfl, (by dsimp only; omega), (by first | omega | (simp; done) | (simp; omega))⟩, rfl⟩
  ·
   have g52 : _ = false := g52
   refine U Z Z g52 K<|U Z Z g52 K<|o_pickf Z g52 rfl K<|o_nil<|h_condf Z Z<|h_skip<|h_seq<|h_seq<|H<|G Z K<|o_nil<|h_block ?_
   refine h_seq<|H<|o_cmp Z Z Z K<|S Z K<|o_nil<|h_cond Z (fun c67 => ?_) (fun c67 => ?_)
   ·
    refine H<|G Z K<|F Z Z K K ?_
    refine o_store 1 Z Z Z Z Z Z<|o_nil<|h_seq<|h_perm ((List.perm_append_comm (l₁ := [_]) (l₂ := [_, _, _])).append_right [_, _])<|h_frzR (⟨b, w.ever, w.blocks, w.bal, w.lev⟩ : Wd) fc x47 b1 b2 c1 c2 (by simp [hlb]) (by simp [hll]) hc1 hc2 (rest := [(x48, .arr 41 8 (l.map encV) c49), (x2, .box 32 [I 0, I 0, V [] true, V [] true, V [] true]), (x1, .box 32 (cellsW w f1 f2 f3))]) ?_
    refine H<|o_freeze 1 13 rfl rfl (by simp) (by assumption) ?_
    refine O 0 Z Z Z Z K<|G Z K ?_
    exact o_store 1 Z Z Z Z Z Z<|S Z K<|o_nil<|h_ret<|retG [] (.cons (resC 1 rfl rfl rfl) (.cons (resT rfl) .nil)) (List.nil_sublist _) ⟨_, rfl, ⟨(⟨b, w.ever, w.blocks, w.bal, w.lev⟩ : Wd), l, fc, false, false, false, rfl, (by dsimp only; omega), (by first | omega | (simp; done) | (simp; omega))⟩, rfl⟩
   ·
    refine h_seq<|H<|o_cmp Z Z Z K<|S Z K<|o_nil<|h_cond Z (fun c69 => ?_) (fun c69 => ?_)
    ·
     refine H<|G Z K<|F Z Z K K ?_
     refine o_store 1 Z Z Z Z Z Z<|o_nil<|h_seq<|h_perm ((List.perm_append_comm (l₁ := [_]) (l₂ := [_, _, _])).append_right [_, _])<|h_frzR (⟨w.alive, b, w.blocks, w.bal, w.lev⟩ : Wd) fc x47 b1 b2 c1 c2 (by simp [hlb]) (by simp [hll]) hc1 hc2 (rest := [(x48, .arr 41 8 (l.map encV) c49), (x2, .box 32 [I 0, I 0, V [] true, V [] true, V [] true]), (x1, .box 32 (cellsW w f1 f2 f3))]) ?_
     refine H<|o_freeze 1 13 rfl rfl (by simp) (by assumption) ?_
     refine O 0 Z Z Z Z K<|G Z K ?_
     exact o_store 1 Z Z Z Z Z Z<|S Z K<|o_nil<|h_ret<|retG [] (.cons (resC 1 rfl rfl rfl) (.cons (resT rfl) .nil)) (List.nil_sublist _) ⟨_, rfl, ⟨(⟨w.alive, b, w.blocks, w.bal, w.lev⟩ : Wd), l, fc, false, false, false, rfl, (by dsimp only; omega), (by first | omega | (simp; done) | (simp; omega))⟩, rfl⟩
    ·
     refine h_seq<|H<|o_cmp Z Z Z K<|S Z K<|o_nil<|h_cond Z (fun c71 => ?_) (fun c71 => ?_)
     ·
      refine h_draw _ (.cons _ (.cons_cons _ (.cons _ (.cons _ (.cons_cons _ (.cons_cons _ (List.nil_sublist _))))))) [(0, .flo), (1, .box), (2, .flo), (3, .flo), (4, .flo), (5, .flo), (6, .sto)] mixed (by kernel_rfl)<|C Z Z (fun jj => F Z Z K K jj)<|c_box Z Z (fun _ _ _ _ jj => O 0 Z Z Z Z K jj)<|C Z Z (fun jj => G Z K jj)<|C Z Z (fun jj => o_call1 Z Z EntC.out K (pick42_spec _ _ hc K) jj)<|C Z Z (fun jj => G Z K jj)<|C Z Z (fun jj => o_idxo Z Z (by omega) (by first | omega | (rw [List.length_map]; have := hlq hbe; have := pickM_range (c := c) (n := (((l.map encV).length : Nat) : Int)) (by rw [List.length_map]; omega); rw [List.length_map] at this; omega)) K jj) ?_
      refine c_sto (.cons _ (.cons_cons _ (.cons _ (.cons _ (.cons_cons _ (.cons_cons _ (List.nil_sublist _))))))) rfl rfl (fun _ _ _ _ jj => o_storee 2 Z Z (by first | exact eltVo (by omega) | exact eltW (by omega)) rfl rfl rfl rfl (by first | (simp [encV]; done) | (simp [encI]; done)) jj) ?_
      refine c_nil<|h_heap (h' := [(x48, .arr 41 8 (l.map encV) c49), (x47, .box 32 [I w.alive, I w.ever, V (w.blocks.map encB) fc, .os b1 1 0 8 c1, .os b2 1 0 8 c2]), (b1, .arr 3 1 ((w.bal.set (pickM c 8).toNat b).map encI) c1), (b2, .arr 3 1 (w.lev.map encI) c2), (x2, .box 32 [I 0, I 0, V [] true, V [] true, V [] true]), (x1, .box 32 (cellsW w f1 f2 f3))]) (by simp only [Nat.zero_add, List.map_set]; rfl) ?_
      refine h_seq<|h_perm ((List.perm_append_comm (l₁ := [_]) (l₂ := [_, _, _])).append_right [_, _])<|h_frzR (⟨w.alive, w.ever, w.blocks, (w.bal.set (pickM c 8).toNat b), w.lev⟩ : Wd) fc x47 b1 b2 c1 c2 (by simp [hlb]) (by simp [hll]) hc1 hc2 (rest := [(x48, .arr 41 8 (l.map encV) c49), (x2, .box 32 [I 0, I 0, V [] true, V [] true, V [] true]), (x1, .box 32 (cellsW w f1 f2 f3))]) ?_
      refine H<|o_freeze 1 13 rfl rfl (by simp) (by assumption) ?_
      refine O 0 Z Z Z Z K<|G Z K ?_
      exact o_store 1 Z Z Z Z Z Z<|S Z K<|o_nil<|h_ret<|retG [] (.cons (resC 1 rfl rfl rfl) (.cons (resT rfl) .nil)) (List.nil_sublist _) ⟨_, rfl, ⟨(⟨w.alive, w.ever, w.blocks, (w.bal.set (pickM c 8).toNat b), w.lev⟩ : Wd), l, fc, false, false, false, rfl, (by dsimp only; omega), (by first | omega | (simp; done) | (simp; omega))⟩, rfl⟩
     ·
      refine h_seq<|H<|o_cmp Z Z Z K<|S Z K<|o_nil<|h_cond Z (fun c73 => ?_) (fun c73 => ?_)
      ·
       refine h_draw _ (.cons _ (.cons_cons _ (.cons _ (.cons _ (.cons_cons _ (.cons_cons _ (List.nil_sublist _))))))) [(0, .flo), (1, .box), (2, .flo), (3, .flo), (4, .flo), (5, .flo), (6, .sto)] mixed (by kernel_rfl)<|C Z Z (fun jj => F Z Z K K jj)<|c_box Z Z (fun _ _ _ _ jj => O 0 Z Z Z Z K jj)<|C Z Z (fun jj => G Z K jj)<|C Z Z (fun jj => o_call1 Z Z EntC.out K (pick42_spec _ _ hc K) jj)<|C Z Z (fun jj => G Z K jj)<|C Z Z (fun jj => o_idxo Z Z (by omega) (by first | omega | (rw [List.length_map]; have := hlq hbe; have := pickM_range (c := c) (n := (((l.map encV).length : Nat) : Int)) (by rw [List.length_map]; omega); rw [List.length_map] at this; omega)) K jj) ?_
       refine c_sto (.cons _ (.cons_cons _ (.cons _ (.cons _ (.cons_cons _ (.cons_cons _ (List.nil_sublist _))))))) rfl rfl (fun _ _ _ _ jj => o_storee 3 Z Z (by first | exact eltVo (by omega) | exact eltW (by omega)) rfl rfl rfl rfl (by first | (simp [encV]; done) | (simp [encI]; done)) jj) ?_
       refine c_nil<|h_heap (h' := [(x48, .arr 41 8 (l.map encV) c49), (x47, .box 32 [I w.alive, I w.ever, V (w.blocks.map encB) fc, .os b1 1 0 8 c1, .os b2 1 0 8 c2]), (b1, .arr 3 1 (w.bal.map encI) c1), (b2, .arr 3 1 ((w.lev.set (pickM c 8).toNat b).map encI) c2), (x2, .box 32 [I 0, I 0, V [] true, V [] true, V [] true]), (x1, .box 32 (cellsW w f1 f2 f3))]) (by simp only [Nat.zero_add, List.map_set]; rfl) ?_
       refine h_seq<|h_perm ((List.perm_append_comm (l₁ := [_]) (l₂ := [_, _, _])).append_right [_, _])<|h_frzR (⟨w.alive, w.ever, w.blocks, w.bal, (w.lev.set (pickM c 8).toNat b)⟩ : Wd) fc x47 b1 b2 c1 c2 (by simp [hlb]) (by simp [hll]) hc1 hc2 (rest := [(x48, .arr 41 8 (l.map encV) c49), (x2, .box 32 [I 0, I 0, V [] true, V [] true, V [] true]), (x1, .box 32 (cellsW w f1 f2 f3))]) ?_
       refine H<|o_freeze 1 13 rfl rfl (by simp) (by assumption) ?_
       refine O 0 Z Z Z Z K<|G Z K ?_
       exact o_store 1 Z Z Z Z Z Z<|S Z K<|o_nil<|h_ret<|retG [] (.cons (resC 1 rfl rfl rfl) (.cons (resT rfl) .nil)) (List.nil_sublist _) ⟨_, rfl, ⟨(⟨w.alive, w.ever, w.blocks, w.bal, (w.lev.set (pickM c 8).toNat b)⟩ : Wd), l, fc, false, false, false, rfl, (by dsimp only; omega), (by first | omega | (simp; done) | (simp; omega))⟩, rfl⟩
      ·
       refine h_seq<|H<|o_cmp Z Z Z K<|S Z K<|o_nil<|h_cond Z (fun c75 => ?_) (fun c75 => ?_)
       ·
        refine H<|F Z Z K K<|O 1 Z Z Z Z K<|G Z K<|o_quo Z Z K (by first | exact tdiv13 ha | (unfold in64; (try dsimp only); omega)) K ?_
        refine G Z K<|G Z K<|o_callN Z Z EntC.out K (bent13_spec w.blocks (by omega) fc (a.tdiv 13) b c (tdiv13 ha) hb hc) fun v h' hr => ?_
        obtain ⟨⟨lb, fb, rfl, hlb2⟩, rfl⟩ := hr
        refine F Z Z K K ?_
        refine o_store 1 Z Z Z Z Z Z<|o_nil<|h_seq<|h_perm ((List.perm_append_comm (l₁ := [_]) (l₂ := [_, _, _])).append_right [_, _])<|h_frzR (⟨w.alive, w.ever, lb, w.bal, w.lev⟩ : Wd) fb x47 b1 b2 c1 c2 (by simp [hlb]) (by simp [hll]) hc1 hc2 (rest := [(x48, .arr 41 8 (l.map encV) c49), (x2, .box 32 [I 0, I 0, V [] true, V [] true, V [] true]), (x1, .box 32 (cellsW w f1 f2 f3))]) ?_
        refine H<|o_freeze 1 13 rfl rfl (by simp) (by assumption) ?_
        refine O 0 Z Z Z Z K<|G Z K ?_
        exact o_store 1 Z Z Z Z Z Z<|S Z K<|o_nil<|h_ret<|retG [] (.cons (resC 1 rfl rfl rfl) (.cons (resT rfl) .nil)) (List.nil_sublist _) ⟨_, rfl, ⟨(⟨w.alive, w.ever, lb, w.bal, w.lev⟩ : Wd), l, fb, false, false, false, rfl, (by dsimp only; omega), (by first | omega | (simp; done) | (simp; omega))⟩, rfl⟩
       ·
        refine h_block<|h_famS (ι := (BvI) ⊕ (BvJ)) (fun i => match i with | .inl i => [(10, .ptr x2 0), (12, .ptr x47 0), (13, V [] true)] | .inr i => [(10, .ptr x2 0), (12, .ptr x47 0), (13, .os i.ob 8 0 i.len i.c)]) (fun i => match i with | .inl i => (x47, .box 32 [I w.alive, I w.ever, V (w.blocks.map encB) fc, .os b1 1 0 8 c1, .os b2 1 0 8 c2]) :: (b1, .arr 3 1 (w.bal.map encI) c1) :: (b2, .arr 3 1 (w.lev.map encI) c2) :: (x2, .box 32 [I 0, I 0, V [] true, V [] true, V [] true]) :: [] | .inr i => (i.ob, .arr 41 8 i.es i.c) :: (x47, .box 32 [I w.alive, I w.ever, V (w.blocks.map encB) fc, .os b1 1 0 8 c1, .os b2 1 0 8 c2]) :: (b1, .arr 3 1 (w.bal.map encI) c1) :: (b2, .arr 3 1 (w.lev.map encI) c2) :: (x2, .box 32 [I 0, I 0, V [] true, V [] true, V [] true]) :: []) (fun i => match i with | .inl i => 22 | .inr i => 21 - i.L.length) (.inr ⟨x48, c49, l, _, _, rfl, (by simp), by omega, (by simpa using hc50)⟩) (.cons_cons _ (.cons_cons _ (.cons_cons _ (.cons_cons _ (.cons_cons _ (.cons _ (.refl _))))))) (subT.cons Z (subT.cons Z (subT.cons Z subT.nil))) ?_
        rintro (⟨k, hk⟩ | ⟨ob, ce, L, es, len, he, hl, hb21, hce⟩)
        ·
         dsimp only
         refine h_seq<|h_seq<|H<|G Z K<|o_len Z K<|o_cmp Z Z Z K<|o_nil<|h_cond Z (fun c77 => ?_) (fun c77 => ?_)
         ·
          refine h_skip<|h_block<|H<|G Z K<|o_build Z Z K<|o_buildSlicep Z (by rfl) (by rfl) (by rfl) (by rfl) K ?_
          refine o_appendv Z Z (Src.v _ _) (okB_one rfl) (by simp [chunk]) (by rw [chunk_length]; omega) (by simp [chunk_length]; try omega) K fun x78 c79 hc80 => ?_
          refine S Z K<|o_nil<|back rfl (.inr ⟨x78, c79, ([] : List Ev) ++ [upV], (([] : List Ev) ++ [upV]).map encV, _, rfl, (by simp [chunk_length]), (by simp; try omega), (by simpa [chunk_length] using hc80)⟩) (by dsimp only; simp; try omega) (.cons_cons _ (.cons_cons _ (.cons_cons _ (.cons_cons _ (.cons_cons _ (.refl _)))))) (subT.cons Z (subT.cons Z (subT.cons Z subT.nil)))
         ·
          refine h_exit<|h_seq<|h_frzR (⟨w.alive, w.ever, w.blocks, w.bal, w.lev⟩ : Wd) fc x47 b1 b2 c1 c2 (by simp [hlb]) (by simp [hll]) hc1 hc2 (rest := [(x2, .box 32 [I 0, I 0, V [] true, V [] true, V [] true])]) ?_
          refine H<|O 0 Z Z Z Z K<|G Z K ?_
          exact o_store 1 Z Z Z Z Z Z<|S Z K<|o_nil<|h_ret<|retG [] (.cons (resC 1 rfl rfl rfl) (.cons (resT rfl) .nil)) (List.nil_sublist _) ⟨_, rfl, ⟨(⟨w.alive, w.ever, w.blocks, w.bal, w.lev⟩ : Wd), ([] : List Ev), fc, false, false, true, rfl, (by dsimp only; omega), (by first | omega | (simp; done) | (simp; omega))⟩, rfl⟩
        ·
         dsimp only
         subst he; subst hl
         refine h_seq<|h_seq<|H<|G Z K<|o_leno Z K<|o_cmp Z Z Z K<|o_nil<|h_cond Z (fun c82 => ?_) (fun c82 => ?_)
         ·
          refine h_skip<|h_block<|H<|G Z K<|o_build Z Z K<|o_buildSlicep Z (by rfl) (by rfl) (by rfl) (by rfl) K ?_
          refine o_append 0 Z Z Z (Src.v _ _) (okB_one rfl) (by simp) (by simp [chunk_length]; try omega) K fun x83 c84 hc85 => ?_
          refine S Z K<|o_nil ?_
          have hlt : L.length < 21 := by have h9 := c82; simp at h9; omega
          refine back rfl (.inr ⟨x83, c84, L ++ [upV], (L ++ [upV]).map encV, _, rfl, (by simp [chunk_length]), (by simp; try omega), (by simpa [chunk_length] using hc85)⟩) (by dsimp only; simp; try omega) (by dsimp only; rw [List.map_append]; exact (.cons_cons _ (.cons_cons _ (.cons_cons _ (.cons_cons _ (.cons_cons _ (.refl _))))))) (subT.cons Z (subT.cons Z (subT.cons Z subT.nil)))
         ·
          refine h_exit<|h_seq<|h_perm ((List.perm_append_comm (l₁ := [_]) (l₂ := [_, _, _])).append_right [_])<|h_frzR (⟨w.alive, w.ever, w.blocks, w.bal, w.lev⟩ : Wd) fc x47 b1 b2 c1 c2 (by simp [hlb]) (by simp [hll]) hc1 hc2 (rest := [(ob, .arr 41 8 (L.map encV) ce), (x2, .box 32 [I 0, I 0, V [] true, V [] true, V [] true])]) ?_
          refine H<|o_freeze 1 13 rfl rfl (by simp) (by assumption) ?_
          refine O 0 Z Z Z Z K<|G Z K ?_
          exact o_store 1 Z Z Z Z Z Z<|S Z K<|o_nil<|h_ret<|retG [] (.cons (resC 1 rfl rfl rfl) (.cons (resT rfl) .nil)) (List.nil_sublist _) ⟨_, rfl, ⟨(⟨w.alive, w.ever, w.blocks, w.bal, w.lev⟩ : Wd), L, fc, false, false, false, rfl, (by dsimp only; omega), (by first | omega | (simp; done) | (simp; omega))⟩, rfl⟩

end Go.Proofs.YtnoicbajhlpndaaGreat
