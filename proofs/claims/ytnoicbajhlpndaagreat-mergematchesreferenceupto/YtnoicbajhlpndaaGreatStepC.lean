/- The walk of the reference's Step. -/
import Derived.Test.YtnoicbajhlpndaaGreatStepB
import Derived.Test.YtnoicbajhlpndaaGreatWorldB
namespace Go.Proofs.YtnoicbajhlpndaaGreat
open Go Go.RowKit Go.Shelf Hp
set_option maxRecDepth 10000
set_option maxHeartbeats 1000000
set_option linter.unusedVariables false
set_option linter.unusedSimpArgs false
attribute [local irreducible] WP WPs FnX IterX YdX RetP PanP Ch Back Join
def upOk (w : Wd) (e : Ev) : Nat → Bool
  | 0 => true
  | k + 1 => upOk w e k && (!bitM w.alive k || decide (w.lev.getD k 0 ≥ w.lev.getD e.a.toNat 0))
/-- What an event does in the reference: whether it may, whether the map fits, and the world (the merged carrier still there). -/
def preR (w : Wd) (e : Ev) : Bool × Bool × Wd :=
  if e.kind = 1 then (bitM w.alive e.b, (handM w.blocks e.a e.b 0 100000000).2, { w with blocks := (handM w.blocks e.a e.b 0 100000000).1, bal := w.bal.set e.b.toNat (w.bal.getD e.b.toNat 0 + w.bal.getD e.a.toNat 0) }) else
  if e.kind = 2 then (!bitM w.ever e.b, (handM w.blocks e.a e.b e.f e.to).2,
    { alive := bits64 .or w.alive (1 * 2 ^ e.b.toNat), ever := bits64 .or w.ever (1 * 2 ^ e.b.toNat), blocks := (handM w.blocks e.a e.b e.f e.to).1, bal := (w.bal.set e.b.toNat e.m).set e.a.toNat (w.bal.getD e.a.toNat 0 - e.m), lev := w.lev.set e.b.toNat (w.lev.getD e.a.toNat 0) }) else
  if e.kind = 3 then (bitM w.alive e.b && bitM w.alive e.c, rvalid (outsideM w.blocks e.a e.b e.c e.f e.to),
    { w with blocks := outsideM w.blocks e.a e.b e.c e.f e.to, bal := (w.bal.set e.b.toNat (w.bal.getD e.b.toNat 0 + e.m)).set e.c.toNat ((w.bal.set e.b.toNat (w.bal.getD e.b.toNat 0 + e.m)).getD e.c.toNat 0 + w.bal.getD e.a.toNat 0 - e.m) }) else
  (upOk w e 8, true, { w with lev := w.lev.set e.a.toNat (w.lev.getD e.a.toNat 0 + 1) })
def endR (w out : Wd) (e : Ev) : Wd := if e.kind = 1 ∨ e.kind = 3 then { out with alive := bits64 .andNot w.alive (1 * 2 ^ e.a.toNat), bal := out.bal.set e.a.toNat 0, lev := out.lev.set e.a.toNat 0 } else out
def okR (w : Wd) (e : Ev) : Bool := rvalidW w && formedM e && bitM w.alive e.a
def stepRM (w : Wd) (e : Ev) : Wd × Int :=
  if okR w e = false then (wd0, 420) else
  if ((preR w e).1 && (preR w e).2.1 && rvalidW (endR w (preR w e).2.2 e)) = false then (wd0, 420) else (endR w (preR w e).2.2 e, 0)
/-- A world that is being changed by the reference, in memory. -/
abbrev WR (w : Wd) (f : Bool) (x b1 b2 c1 c2 : Nat) : AHeap := [(x, .box 32 [I w.alive, I w.ever, V (w.blocks.map encB) f, .os b1 1 0 8 c1, .os b2 1 0 8 c2]), (b1, .arr 3 1 (w.bal.map encI) c1), (b2, .arr 3 1 (w.lev.map encI) c2)]
section
variable {X : Ctx} {N : Nat} {r : Option Nat} {Q : Post} {ds : List Deferred} {a : Tmps}
/-- It is changed no longer: plain data. -/
theorem h_frzR {c : Code} (w : Wd) (f : Bool) (x b1 b2 c1 c2 : Nat) (hb : w.bal.length = 8) (hl : w.lev.length = 8) (h1 : 8 ≤ c1) (h2 : 8 ≤ c2) {rest : AHeap}
    (k : WP Tryz.prog X N r c Q ds a ((x, .box 32 (cellsW w f false false)) :: rest)) : WP Tryz.prog X N r c Q ds a (WR w f x b1 b2 c1 c2 ++ rest) := by
  have hdom : ∀ hn : (dom (WR w f x b1 b2 c1 c2 ++ rest)).Nodup, b1 ∉ dom ((x, OB.box 32 (cellsW w f false false)) :: rest) ∧ b2 ∉ dom ((x, OB.box 32 (cellsW w f false false)) :: rest) := by
    intro hn
    simp only [dom, WR, List.cons_append, List.map_cons, List.nil_append, List.nodup_cons, List.mem_cons, not_or] at hn ⊢
    exact ⟨⟨Ne.symm hn.1.1, hn.2.1.2⟩, ⟨Ne.symm hn.1.2.1, hn.2.2.1⟩⟩
  refine h_frzN ((x, .box 32 (cellsW w f false false)) :: rest) (fun hn => ?_) (fun hn b o' ho => ?_) (fun hn t v hv => ⟨v, hv, .refl _⟩) k
  · simp only [dom, List.cons_append, List.map_cons, List.nil_append] at hn ⊢
    have := List.nodup_cons.1 hn
    refine List.nodup_cons.2 ⟨fun hm => this.1 (by simp [hm]), (List.nodup_cons.1 (List.nodup_cons.1 this.2).2).2⟩
  · obtain ⟨hd1, hd2⟩ := hdom hn
    rcases List.mem_cons.1 ho with he | hm
    · cases he
      refine ⟨_, List.mem_cons_self, .box _ _ _ rfl fun i c d hc hd => ?_⟩
      have f1 : FrzA (WR w f x b1 b2 c1 c2 ++ rest) ((x, .box 32 (cellsW w f false false)) :: rest) (.os b1 1 0 8 c1) (V (w.bal.map encI) false) := by
        have := FrzA.os (h := WR w f x b1 b2 c1 c2 ++ rest) (h' := (x, .box 32 (cellsW w f false false)) :: rest) b1 1 0 8 c1 3 (w.bal.map encI) c1 false (by simp) hd1 (by simp [hb]) h1 (by simp)
        rwa [List.drop_zero, List.take_of_length_le (by simp [hb])] at this
      have f2 : FrzA (WR w f x b1 b2 c1 c2 ++ rest) ((x, .box 32 (cellsW w f false false)) :: rest) (.os b2 1 0 8 c2) (V (w.lev.map encI) false) := by
        have := FrzA.os (h := WR w f x b1 b2 c1 c2 ++ rest) (h' := (x, .box 32 (cellsW w f false false)) :: rest) b2 1 0 8 c2 3 (w.lev.map encI) c2 false (by simp) hd2 (by simp [hl]) h2 (by simp)
        rwa [List.drop_zero, List.take_of_length_le (by simp [hl])] at this
      match i with
      | 0 => cases hc; cases hd; exact .refl _
      | 1 => cases hc; cases hd; exact .refl _
      | 2 => cases hc; cases hd; exact .refl _
      | 3 => cases hc; cases hd; exact f1
      | 4 => cases hc; cases hd; exact f2
      | i + 5 => cases hc
    · exact ⟨o', by simp [hm], .refl _⟩
end
theorem formed_car {e : Ev} (h : formedM e = true) : (0 ≤ e.a ∧ e.a ≤ 7) ∧ (0 ≤ e.b ∧ e.b ≤ 7) ∧ 0 ≤ e.c ∧ e.c ≤ 7 := by
  simp only [formedM, inR, Bool.and_eq_true, decide_eq_true_eq] at h; omega
theorem formed_some {e : Ev} (h : formedM e = true) (hk : e.kind = 2 ∨ e.kind = 3) : rangeOk e.f e.to = true ∧ -1000000000000 ≤ e.m ∧ e.m ≤ 1000000000000 := by
  unfold formedM someE at h
  rcases hk with hk | hk <;> (simp only [hk, inR, Bool.and_eq_true, decide_eq_true_eq] at h; simp at h; exact ⟨by simp_all, by omega, by omega⟩)
theorem handM_len (l : List Blk) (a b f t : Int) : (handM l a b f t).1.length ≤ 40 := overR_len _ _
/-- What the walk needs of the world in between. -/
structure PreG (w out : Wd) : Prop where
  lb : out.bal.length = 8
  ll : out.lev.length = 8
  bl : out.blocks.length ≤ 120
abbrev RW4 (p : Wd × Int) : AV → AHeap → Prop := fun r h' => h' = [] ∧ ∃ f1 f2 f3, r = .tup [encW p.1 f1 f2 f3, I p.2]
structure StI (w : Wd) (e : Ev) where
  one : Bool
  two : Bool
  out : Wd
  fl : Bool
  eq : preR w e = (one, two, out)
  good : PreG w out

theorem step42_spec (w : Wd) (e : Ev) (hbs : w.blocks.length ≤ 1000000000) (f1 f2 f3 : Bool) : Fc Tryz.prog 17 [encW w f1 f2 f3, encE e] [] (RW4 (stepRM w e)) := by
 refine fnE_intro (N := 272) Tryz.func17 rfl rfl rfl ?_
 intro X
 refine h_seq<|H<|o_box Z Z K fun x2 => o_box Z Z K fun x3 => o_alloc K fun x4 => S Z K<|o_nil<|h_seq<|h_seq<|H<|O 2 Z Z Z Z K<|o_call1 Z Z EntC.out K (rvalidW_spec w hbs f1 f2 f3) ?_
 refine o_not Z K<|G Z K<|o_guard Z Z K (fun g6 => ?_) (fun g6 => ?_)
 ·
  have g6 : _ = false := g6
  refine O 1 Z Z Z Z K<|W Z Z g6 K<|o_call1 Z Z EntC.out K (formed_spec e)<|W Z Z g6 K<|o_not Z K<|o_pickf Z g6 rfl K<|G Z K<|o_guard Z Z K (fun g8 => ?_) (fun g8 => ?_)
  ·
   have g8 : _ = false := g8
   refine F Z Z K K<|W Z Z g8 K<|O 2 Z Z Z Z K<|W Z Z g8 K<|F Z Z K K<|W Z Z g8 K<|O 1 Z Z Z Z K<|W Z Z g8 K ?_
   refine o_call1 Z Z EntC.out K (bit42_spec _ _ (by first | omega | (have := formed_car (e := e) (by simp_all); omega)) (by first | omega | (have := formed_car (e := e) (by simp_all); omega))) ?_
   refine W Z Z g8 K<|o_not Z K<|o_pickf Z g8 rfl K<|o_nil<|h_cond Z (fun c10 => ?_) (fun c10 => ?_)
   ·
    refine h_seq<|H<|o_build Z Z K ?_
    refine o_store 0 Z Z Z Z Z Z<|S Z K<|o_nil<|h_ret ?_
    have hq : stepRM w e = (wd0, 420) := by unfold stepRM okR; rw [if_pos (by simp_all)]
    exact retG [] (.cons (resC 0 rfl rfl rfl) (.cons (resT rfl) .nil)) (List.nil_sublist _) ⟨_, rfl, rfl, true, true, true, by rw [hq]; rfl⟩
   ·
    refine h_skip<|h_seq<|H<|O 2 Z Z Z Z K ?_
    have hvw : rvalidW w = true := by simp_all
    have hfm : formedM e = true := by simp_all
    have hv := (valid_iff w).1 ((rvalidW_eq w).symm.trans hvw)
    obtain ⟨⟨ha0, ha7⟩, ⟨hb0, hb7⟩, hc0, hc7⟩ := formed_car hfm
    have hbl := valid_len hv.blk
    have hlb := hv.lb
    have hll := hv.ll
    refine o_callN Z Z EntC.out K (copy42_spec w f1 f2 f3 (by omega) hv.lb hv.ll) fun v h' hr => ?_
    obtain ⟨fc, b1, b2, c1, c2, hc1, hc2, rfl, rfl⟩ := hr
    refine o_alloc K fun x11 => ?_
    refine o_store 0 Z Z Z Z Z Z<|o_nil<|h_seq<|H<|S Z K<|o_nil<|h_seq<|H<|S Z K<|o_nil<|h_seqK (ι := StI w e) (fun i => [(2, .ptr x2 0), (3, .ptr x3 0), (4, .ptr x4 0), (5, I 0), (6, .ptr x11 0), (7, B i.one), (8, B i.two)]) (fun i => [(x11, .box 32 [I i.out.alive, I i.out.ever, V (i.out.blocks.map encB) i.fl, .os b1 1 0 8 c1, .os b2 1 0 8 c2]), (b1, .arr 3 1 (i.out.bal.map encI) c1), (b2, .arr 3 1 (i.out.lev.map encI) c2), (x4, .box 32 [I 0, I 0, V [] true, V [] true, V [] true]), (x3, .box 41 [I e.kind, I e.t, I e.a, I e.b, I e.c, I e.f, I e.to, I e.m]), (x2, .box 32 (cellsW w f1 f2 f3))]) ?_ ?_
    ·
     refine h_seq<|H<|F Z Z K K<|O 4 Z Z Z Z K<|o_nil<|h_block<|h_seq<|H<|o_cmp Z Z Z K<|S Z K<|o_nil<|h_cond Z (fun c15 => ?_) (fun c15 => ?_)
     ·
      refine h_seq<|H<|F Z Z K K<|O 5 Z Z Z Z K<|F Z Z K K<|O 4 Z Z Z Z K ?_
      refine o_call1 Z Z EntC.out K (bit42_spec _ _ (by first | omega | (have := formed_car (e := e) (by simp_all); omega)) (by first | omega | (have := formed_car (e := e) (by simp_all); omega))) ?_
      refine S Z K<|o_nil<|h_seq<|h_draw _ (.cons _ (.cons _ (.cons _ (.cons_cons _ (.cons_cons _ (.cons_cons _ (List.nil_sublist _))))))) [(0, .flo), (1, .box), (2, .flo), (3, .box), (4, .flo), (5, .box), (6, .flo), (7, .flo), (8, .flo), (9, .flo), (10, .flo), (11, .flo), (12, .sto), (13, .flo)] mixed (by kernel_rfl)<|C Z Z (fun jj => F Z Z K K jj)<|c_box Z Z (fun _ _ _ _ jj => O 2 Z Z Z Z K jj)<|C Z Z (fun jj => F Z Z K K jj)<|c_box Z Z (fun _ _ _ _ jj => O 1 Z Z Z Z K jj)<|C Z Z (fun jj => F Z Z K K jj)<|c_box Z Z (fun _ _ _ _ jj => O 1 Z Z Z Z K jj)<|C Z Z (fun jj => o_call1 Z Z EntC.out K all_spec jj)<|C Z Z (fun jj => o_call1 Z Z EntC.out K (hand_spec w.blocks (by omega) f1 e.a e.b _ _) jj) ?_
      refine C Z Z (fun jj => G Z K jj)<|C Z Z (fun jj => o_extract Z Z K jj)<|C Z Z (fun jj => o_extract Z Z K jj)<|C Z Z (fun jj => F Z Z K K jj) ?_
      refine c_sto (.cons _ (.cons _ (.cons _ (.cons_cons _ (.cons_cons _ (.cons_cons _ (List.nil_sublist _))))))) rfl rfl (fun _ _ _ _ jj => o_store 0 Z Z Z Z Z Z jj)<|C Z Z (fun jj => S Z K jj)<|c_nil<|h_draw _ (.cons_cons _ (.cons _ (.cons _ (.cons_cons _ (.cons_cons _ (.cons_cons _ (List.nil_sublist _))))))) [(0, .flo), (1, .box), (2, .flo), (3, .box), (4, .flo), (5, .box), (6, .flo), (7, .box), (8, .flo), (9, .val), (10, .flo), (11, .box), (12, .flo), (13, .box), (14, .flo), (15, .val), (16, .flo), (17, .flo), (18, .sto)] mixed (by kernel_rfl)<|C Z Z (fun jj => F Z Z K K jj)<|c_box Z Z (fun _ _ _ _ jj => O 0 Z Z Z Z K jj)<|C Z Z (fun jj => F Z Z K K jj)<|c_box Z Z (fun _ _ _ _ jj => O 2 Z Z Z Z K jj)<|C Z Z (fun jj => F Z Z K K jj)<|c_box Z Z (fun _ _ _ _ jj => O 0 Z Z Z Z K jj)<|C Z Z (fun jj => F Z Z K K jj)<|c_box Z Z (fun _ _ _ _ jj => O 2 Z Z Z Z K jj) ?_
      refine C Z Z (fun jj => o_idxo Z Z (by omega) (by omega) K jj)<|c_val Z Z (fun _ _ _ _ jj => o_loade 1 Z Z (eltW (by (try simp only [List.length_set]); omega)) rfl rfl K jj)<|C Z Z (fun jj => F Z Z K K jj)<|c_box Z Z (fun _ _ _ _ jj => O 3 Z Z Z Z K jj)<|C Z Z (fun jj => F Z Z K K jj)<|c_box Z Z (fun _ _ _ _ jj => O 2 Z Z Z Z K jj)<|C Z Z (fun jj => o_idxv Z Z (by omega) (eltIn (by omega)) rfl K jj)<|c_val Z Z (fun _ _ _ _ jj => o_loadv Z Z K jj)<|C Z Z (fun jj => o_add Z Z (by have h1 := bal_bound hv e.a.toNat; have h2 := bal_bound hv e.b.toNat; have h3 := bal_bound hv e.c.toNat; unfold in64; (try dsimp only); omega) K jj) ?_
      refine C Z Z (fun jj => o_idxo Z Z (by omega) (by omega) K jj) ?_
      refine c_sto (.cons_cons _ (.cons _ (.cons _ (.cons_cons _ (.cons_cons _ (.cons_cons _ (List.nil_sublist _))))))) rfl rfl (fun _ _ _ _ jj => o_storee 1 Z Z (eltW (by (try simp only [List.length_set]); omega)) rfl rfl rfl rfl (by simp [encI]) jj) ?_
      refine c_nil ?_
      have hk : e.kind = 1 := by simp_all
      exact join rfl ⟨bitM w.alive e.b, (handM w.blocks e.a e.b 0 100000000).2, ⟨w.alive, w.ever, (handM w.blocks e.a e.b 0 100000000).1, (w.bal.set e.b.toNat ((w.bal.getD e.b.toNat 0) + (w.bal.getD e.a.toNat 0))), w.lev⟩, (handM w.blocks e.a e.b 0 100000000).1.isEmpty, (by unfold preR; simp [hk]), ⟨by simp [hlb], by simp [hll], (by have := handM_len w.blocks e.a e.b 0 100000000; dsimp only; omega)⟩⟩ (.of_eq (show _ = ([(x11, .box 32 [I w.alive, I w.ever, V ((handM w.blocks e.a e.b 0 100000000).1.map encB) (handM w.blocks e.a e.b 0 100000000).1.isEmpty, .os b1 1 0 8 c1, .os b2 1 0 8 c2]), (b1, .arr 3 1 ((w.bal.set e.b.toNat ((w.bal.getD e.b.toNat 0) + (w.bal.getD e.a.toNat 0))).map encI) c1), (b2, .arr 3 1 (w.lev.map encI) c2), (x4, .box 32 [I 0, I 0, V [] true, V [] true, V [] true]), (x3, .box 41 [I e.kind, I e.t, I e.a, I e.b, I e.c, I e.f, I e.to, I e.m]), (x2, .box 32 (cellsW w f1 f2 f3))] : AHeap) from by simp only [Nat.zero_add, List.map_set]; rfl)) (.cons_cons _ (.cons_cons _ (.cons_cons _ (.cons_cons _ (.cons_cons _ (.cons_cons _ (List.nil_sublist _))))))) (subT.cons Z (subT.cons Z (subT.cons Z (subT.cons Z (subT.cons Z (subT.cons Z (subT.cons Z subT.nil)))))))
     ·
      refine h_seq<|H<|o_cmp Z Z Z K<|S Z K<|o_nil<|h_cond Z (fun c18 => ?_) (fun c18 => ?_)
      ·
       refine h_seq ?_
       have hfs := formed_some hfm (.inl (by simp_all))
       obtain ⟨hfr, hm0, hm1⟩ := hfs
       have hwb : -2000000000000 ≤ (w.bal.set e.b.toNat (w.bal.getD e.b.toNat 0 + e.m)).getD e.c.toNat 0 ∧ (w.bal.set e.b.toNat (w.bal.getD e.b.toNat 0 + e.m)).getD e.c.toNat 0 ≤ 2000000000000 := getD_set_bound (b := 1000000000000) (d := 2000000000000) (bal_bound hv) (by omega) (by have := bal_bound hv e.b.toNat; omega)
       refine H<|F Z Z K K<|O 5 Z Z Z Z K<|F Z Z K K<|O 4 Z Z Z Z K ?_
       refine o_call1 Z Z EntC.out K (bit42_spec _ _ (by first | omega | (have := formed_car (e := e) (by simp_all); omega)) (by first | omega | (have := formed_car (e := e) (by simp_all); omega))) ?_
       refine o_not Z K<|S Z K<|o_nil<|h_seq<|H<|F Z Z K K<|O 5 Z Z Z Z K<|F Z Z K K<|O 4 Z Z Z Z K<|F Z Z K K<|O 4 Z Z Z Z K<|F Z Z K K ?_
       refine O 4 Z Z Z Z K<|o_call1 Z Z EntC.out K (hand_spec w.blocks (by omega) f1 e.a e.b _ _)<|G Z K<|o_extract Z Z K<|o_extract Z Z K<|F Z Z K K ?_
       refine o_store 0 Z Z Z Z Z Z<|S Z K<|o_nil<|h_seq<|H<|F Z Z K K<|O 0 Z Z Z Z K<|F Z Z K K<|O 4 Z Z Z Z K<|F Z Z K K<|O 4 Z Z Z Z K<|o_idxo Z Z (by omega) (by omega) K ?_
       refine o_storee 1 Z Z (eltW (by (try simp only [List.length_set]); omega)) rfl rfl rfl rfl (by simp [encI]) ?_
       refine o_nil<|h_heap (h' := [(x11, .box 32 [I w.alive, I w.ever, V ((handM w.blocks e.a e.b e.f e.to).1.map encB) (handM w.blocks e.a e.b e.f e.to).1.isEmpty, .os b1 1 0 8 c1, .os b2 1 0 8 c2]), (b1, .arr 3 1 ((w.bal.set e.b.toNat e.m).map encI) c1), (b2, .arr 3 1 (w.lev.map encI) c2), (x4, .box 32 [I 0, I 0, V [] true, V [] true, V [] true]), (x3, .box 41 [I e.kind, I e.t, I e.a, I e.b, I e.c, I e.f, I e.to, I e.m]), (x2, .box 32 (cellsW w f1 f2 f3))]) (by simp only [Nat.zero_add, List.map_set]; rfl) ?_
       refine h_seq<|h_draw _ (.cons_cons _ (.cons _ (.cons _ (.cons_cons _ (.cons_cons _ (.cons_cons _ (List.nil_sublist _))))))) [(0, .flo), (1, .box), (2, .flo), (3, .box), (4, .flo), (5, .box), (6, .flo), (7, .box), (8, .flo), (9, .val), (10, .flo), (11, .box), (12, .flo), (13, .flo), (14, .sto)] mixed (by kernel_rfl)<|C Z Z (fun jj => F Z Z K K jj)<|c_box Z Z (fun _ _ _ _ jj => O 0 Z Z Z Z K jj)<|C Z Z (fun jj => F Z Z K K jj)<|c_box Z Z (fun _ _ _ _ jj => O 2 Z Z Z Z K jj)<|C Z Z (fun jj => F Z Z K K jj)<|c_box Z Z (fun _ _ _ _ jj => O 3 Z Z Z Z K jj)<|C Z Z (fun jj => F Z Z K K jj)<|c_box Z Z (fun _ _ _ _ jj => O 2 Z Z Z Z K jj)<|C Z Z (fun jj => o_idxv Z Z (by omega) (eltIn (by omega)) rfl K jj)<|c_val Z Z (fun _ _ _ _ jj => o_loadv Z Z K jj) ?_
       refine C Z Z (fun jj => F Z Z K K jj)<|c_box Z Z (fun _ _ _ _ jj => O 2 Z Z Z Z K jj)<|C Z Z (fun jj => o_sub Z Z (by have h1 := bal_bound hv e.a.toNat; have h2 := bal_bound hv e.b.toNat; have h3 := bal_bound hv e.c.toNat; unfold in64; (try dsimp only); omega) K jj) ?_
       refine C Z Z (fun jj => o_idxo Z Z (by omega) (by omega) K jj) ?_
       refine c_sto (.cons_cons _ (.cons _ (.cons _ (.cons_cons _ (.cons_cons _ (.cons_cons _ (List.nil_sublist _))))))) rfl rfl (fun _ _ _ _ jj => o_storee 1 Z Z (eltW (by (try simp only [List.length_set]); omega)) rfl rfl rfl rfl (by simp [encI]) jj) ?_
       refine c_nil<|h_heap (h' := [(x11, .box 32 [I w.alive, I w.ever, V ((handM w.blocks e.a e.b e.f e.to).1.map encB) (handM w.blocks e.a e.b e.f e.to).1.isEmpty, .os b1 1 0 8 c1, .os b2 1 0 8 c2]), (b1, .arr 3 1 (((w.bal.set e.b.toNat e.m).set e.a.toNat ((w.bal.getD e.a.toNat 0) - e.m)).map encI) c1), (b2, .arr 3 1 (w.lev.map encI) c2), (x4, .box 32 [I 0, I 0, V [] true, V [] true, V [] true]), (x3, .box 41 [I e.kind, I e.t, I e.a, I e.b, I e.c, I e.f, I e.to, I e.m]), (x2, .box 32 (cellsW w f1 f2 f3))]) (by simp only [Nat.zero_add, List.map_set]; rfl) ?_
       refine h_seq<|h_draw _ (.cons _ (.cons _ (.cons _ (.cons_cons _ (.cons_cons _ (.cons_cons _ (List.nil_sublist _))))))) [(0, .flo), (1, .box), (2, .flo), (3, .box), (4, .flo), (5, .flo), (6, .flo), (7, .sto)] mixed (by kernel_rfl)<|C Z Z (fun jj => F Z Z K K jj)<|c_box Z Z (fun _ _ _ _ jj => O 2 Z Z Z Z K jj)<|C Z Z (fun jj => F Z Z K K jj)<|c_box Z Z (fun _ _ _ _ jj => O 1 Z Z Z Z K jj)<|C Z Z (fun jj => o_shl Z Z (by omega) (by omega) (by first | exact pow_small hb0 hb7 | exact pow_small ha0 ha7) K jj) ?_
       refine C Z Z (fun jj => o_bits K rfl rfl K jj)<|C Z Z (fun jj => F Z Z K K jj) ?_
       refine c_sto (.cons _ (.cons _ (.cons _ (.cons_cons _ (.cons_cons _ (.cons_cons _ (List.nil_sublist _))))))) rfl rfl (fun _ _ _ _ jj => o_store 0 Z Z Z Z Z Z jj)<|c_nil<|h_seq<|h_draw _ (.cons _ (.cons _ (.cons _ (.cons_cons _ (.cons_cons _ (.cons_cons _ (List.nil_sublist _))))))) [(0, .flo), (1, .box), (2, .flo), (3, .box), (4, .flo), (5, .flo), (6, .flo), (7, .sto)] mixed (by kernel_rfl)<|C Z Z (fun jj => F Z Z K K jj)<|c_box Z Z (fun _ _ _ _ jj => O 2 Z Z Z Z K jj)<|C Z Z (fun jj => F Z Z K K jj)<|c_box Z Z (fun _ _ _ _ jj => O 1 Z Z Z Z K jj)<|C Z Z (fun jj => o_shl Z Z (by omega) (by omega) (by first | exact pow_small hb0 hb7 | exact pow_small ha0 ha7) K jj) ?_
       refine C Z Z (fun jj => o_bits K rfl rfl K jj)<|C Z Z (fun jj => F Z Z K K jj) ?_
       refine c_sto (.cons _ (.cons _ (.cons _ (.cons_cons _ (.cons_cons _ (.cons_cons _ (List.nil_sublist _))))))) rfl rfl (fun _ _ _ _ jj => o_store 0 Z Z Z Z Z Z jj)<|c_nil<|h_draw _ (.cons_cons _ (.cons _ (.cons _ (.cons_cons _ (.cons_cons _ (.cons_cons _ (List.nil_sublist _))))))) [(0, .flo), (1, .box), (2, .flo), (3, .box), (4, .flo), (5, .box), (6, .flo), (7, .box), (8, .flo), (9, .val), (10, .flo), (11, .sto)] mixed (by kernel_rfl)<|C Z Z (fun jj => F Z Z K K jj)<|c_box Z Z (fun _ _ _ _ jj => O 0 Z Z Z Z K jj)<|C Z Z (fun jj => F Z Z K K jj)<|c_box Z Z (fun _ _ _ _ jj => O 2 Z Z Z Z K jj)<|C Z Z (fun jj => F Z Z K K jj)<|c_box Z Z (fun _ _ _ _ jj => O 3 Z Z Z Z K jj)<|C Z Z (fun jj => F Z Z K K jj)<|c_box Z Z (fun _ _ _ _ jj => O 2 Z Z Z Z K jj)<|C Z Z (fun jj => o_idxv Z Z (by omega) (eltIn (by omega)) rfl K jj) ?_
       refine c_val Z Z (fun _ _ _ _ jj => o_loadv Z Z K jj)<|C Z Z (fun jj => o_idxo Z Z (by omega) (by omega) K jj) ?_
       refine c_sto (.cons_cons _ (.cons _ (.cons _ (.cons_cons _ (.cons_cons _ (.cons_cons _ (List.nil_sublist _))))))) rfl rfl (fun _ _ _ _ jj => o_storee 2 Z Z (eltW (by (try simp only [List.length_set]); omega)) rfl rfl rfl rfl (by simp [encI]) jj) ?_
       refine c_nil ?_
       have hk : e.kind = 2 := by simp_all
       exact join rfl ⟨!bitM w.ever e.b, (handM w.blocks e.a e.b e.f e.to).2, ⟨(bits64 .or w.alive (1 * 2 ^ e.b.toNat)), (bits64 .or w.ever (1 * 2 ^ e.b.toNat)), (handM w.blocks e.a e.b e.f e.to).1, ((w.bal.set e.b.toNat e.m).set e.a.toNat ((w.bal.getD e.a.toNat 0) - e.m)), (w.lev.set e.b.toNat (w.lev.getD e.a.toNat 0))⟩, (handM w.blocks e.a e.b e.f e.to).1.isEmpty, (by unfold preR; simp [hk]), ⟨by simp [hlb], by simp [hll], (by have := handM_len w.blocks e.a e.b e.f e.to; dsimp only; omega)⟩⟩ (.of_eq (show _ = ([(x11, .box 32 [I (bits64 .or w.alive (1 * 2 ^ e.b.toNat)), I (bits64 .or w.ever (1 * 2 ^ e.b.toNat)), V ((handM w.blocks e.a e.b e.f e.to).1.map encB) (handM w.blocks e.a e.b e.f e.to).1.isEmpty, .os b1 1 0 8 c1, .os b2 1 0 8 c2]), (b1, .arr 3 1 (((w.bal.set e.b.toNat e.m).set e.a.toNat ((w.bal.getD e.a.toNat 0) - e.m)).map encI) c1), (b2, .arr 3 1 ((w.lev.set e.b.toNat (w.lev.getD e.a.toNat 0)).map encI) c2), (x4, .box 32 [I 0, I 0, V [] true, V [] true, V [] true]), (x3, .box 41 [I e.kind, I e.t, I e.a, I e.b, I e.c, I e.f, I e.to, I e.m]), (x2, .box 32 (cellsW w f1 f2 f3))] : AHeap) from by simp only [Nat.zero_add, List.map_set]; rfl)) (.cons_cons _ (.cons_cons _ (.cons_cons _ (.cons_cons _ (.cons_cons _ (.cons_cons _ (List.nil_sublist _))))))) (subT.cons Z (subT.cons Z (subT.cons Z (subT.cons Z (subT.cons Z (subT.cons Z (subT.cons Z subT.nil)))))))
      ·
       refine h_seq<|H<|o_cmp Z Z Z K<|S Z K<|o_nil<|h_cond Z (fun c21 => ?_) (fun c21 => ?_)
       ·
        refine h_seq ?_
        have hfs := formed_some hfm (.inr (by simp_all))
        obtain ⟨hfr, hm0, hm1⟩ := hfs
        have hwb : -2000000000000 ≤ (w.bal.set e.b.toNat (w.bal.getD e.b.toNat 0 + e.m)).getD e.c.toNat 0 ∧ (w.bal.set e.b.toNat (w.bal.getD e.b.toNat 0 + e.m)).getD e.c.toNat 0 ≤ 2000000000000 := getD_set_bound (b := 1000000000000) (d := 2000000000000) (bal_bound hv) (by omega) (by have := bal_bound hv e.b.toNat; omega)
        refine H<|F Z Z K K<|O 5 Z Z Z Z K<|F Z Z K K<|O 4 Z Z Z Z K ?_
        refine o_call1 Z Z EntC.out K (bit42_spec _ _ (by first | omega | (have := formed_car (e := e) (by simp_all); omega)) (by first | omega | (have := formed_car (e := e) (by simp_all); omega))) ?_
        refine G Z K<|o_guard Z Z K (fun g23 => ?_) (fun g23 => ?_)
        ·
         have g23 : _ = true := g23
         refine F Z Z K K<|W Z Z g23 K<|O 5 Z Z Z Z K<|W Z Z g23 K<|F Z Z K K<|W Z Z g23 K<|O 4 Z Z Z Z K<|W Z Z g23 K ?_
         refine o_call1 Z Z EntC.out K (bit42_spec _ _ (by first | omega | (have := formed_car (e := e) (by simp_all); omega)) (by first | omega | (have := formed_car (e := e) (by simp_all); omega))) ?_
         refine o_pickt Z g23 rfl K<|S Z K<|o_nil<|h_seq<|H<|F Z Z K K<|O 5 Z Z Z Z K<|F Z Z K K<|O 4 Z Z Z Z K<|F Z Z K K<|O 4 Z Z Z Z K<|F Z Z K K ?_
         refine O 4 Z Z Z Z K<|F Z Z K K<|O 4 Z Z Z Z K<|o_call1 Z Z EntC.out K (outside_walk w.blocks (by omega) f1 e.a e.b e.c e.f e.to (fun z hz => can_car (valid_can hv.blk) z hz) hb0 hc0)<|S Z K<|o_nil<|h_seq<|H<|G Z K<|F Z Z K K ?_
         refine o_store 0 Z Z Z Z Z Z<|o_nil<|h_seq<|H<|G Z K<|o_call1 Z Z EntC.out K (rvalid_spec (outsideM w.blocks e.a e.b e.c e.f e.to) (by have := outsideM_len w.blocks e.a e.b e.c e.f e.to; omega) _) ?_
         refine S Z K<|o_nil<|h_seq<|h_draw _ (.cons_cons _ (.cons _ (.cons _ (.cons_cons _ (.cons_cons _ (.cons_cons _ (List.nil_sublist _))))))) [(0, .flo), (1, .box), (2, .flo), (3, .box), (4, .flo), (5, .box), (6, .flo), (7, .box), (8, .flo), (9, .val), (10, .flo), (11, .box), (12, .flo), (13, .flo), (14, .sto)] mixed (by kernel_rfl)<|C Z Z (fun jj => F Z Z K K jj)<|c_box Z Z (fun _ _ _ _ jj => O 0 Z Z Z Z K jj)<|C Z Z (fun jj => F Z Z K K jj)<|c_box Z Z (fun _ _ _ _ jj => O 2 Z Z Z Z K jj)<|C Z Z (fun jj => F Z Z K K jj)<|c_box Z Z (fun _ _ _ _ jj => O 0 Z Z Z Z K jj)<|C Z Z (fun jj => F Z Z K K jj)<|c_box Z Z (fun _ _ _ _ jj => O 2 Z Z Z Z K jj) ?_
         refine C Z Z (fun jj => o_idxo Z Z (by omega) (by omega) K jj)<|c_val Z Z (fun _ _ _ _ jj => o_loade 1 Z Z (eltW (by (try simp only [List.length_set]); omega)) rfl rfl K jj)<|C Z Z (fun jj => F Z Z K K jj)<|c_box Z Z (fun _ _ _ _ jj => O 2 Z Z Z Z K jj)<|C Z Z (fun jj => o_add Z Z (by have h1 := bal_bound hv e.a.toNat; have h2 := bal_bound hv e.b.toNat; have h3 := bal_bound hv e.c.toNat; unfold in64; (try dsimp only); omega) K jj) ?_
         refine C Z Z (fun jj => o_idxo Z Z (by omega) (by omega) K jj) ?_
         refine c_sto (.cons_cons _ (.cons _ (.cons _ (.cons_cons _ (.cons_cons _ (.cons_cons _ (List.nil_sublist _))))))) rfl rfl (fun _ _ _ _ jj => o_storee 1 Z Z (eltW (by (try simp only [List.length_set]); omega)) rfl rfl rfl rfl (by simp [encI]) jj) ?_
         refine c_nil<|h_heap (h' := [(x11, .box 32 [I w.alive, I w.ever, V ((outsideM w.blocks e.a e.b e.c e.f e.to).map encB) (outsideM w.blocks e.a e.b e.c e.f e.to).isEmpty, .os b1 1 0 8 c1, .os b2 1 0 8 c2]), (b1, .arr 3 1 ((w.bal.set e.b.toNat ((w.bal.getD e.b.toNat 0) + e.m)).map encI) c1), (b2, .arr 3 1 (w.lev.map encI) c2), (x4, .box 32 [I 0, I 0, V [] true, V [] true, V [] true]), (x3, .box 41 [I e.kind, I e.t, I e.a, I e.b, I e.c, I e.f, I e.to, I e.m]), (x2, .box 32 (cellsW w f1 f2 f3))]) (by simp only [Nat.zero_add, List.map_set]; rfl) ?_
         refine h_draw _ (.cons_cons _ (.cons _ (.cons _ (.cons_cons _ (.cons_cons _ (.cons_cons _ (List.nil_sublist _))))))) [(0, .flo), (1, .box), (2, .flo), (3, .box), (4, .flo), (5, .box), (6, .flo), (7, .box), (8, .flo), (9, .val), (10, .flo), (11, .box), (12, .flo), (13, .box), (14, .flo), (15, .val), (16, .flo), (17, .flo), (18, .box), (19, .flo), (20, .flo), (21, .sto)] mixed (by kernel_rfl)<|C Z Z (fun jj => F Z Z K K jj)<|c_box Z Z (fun _ _ _ _ jj => O 0 Z Z Z Z K jj)<|C Z Z (fun jj => F Z Z K K jj)<|c_box Z Z (fun _ _ _ _ jj => O 2 Z Z Z Z K jj)<|C Z Z (fun jj => F Z Z K K jj)<|c_box Z Z (fun _ _ _ _ jj => O 0 Z Z Z Z K jj)<|C Z Z (fun jj => F Z Z K K jj)<|c_box Z Z (fun _ _ _ _ jj => O 2 Z Z Z Z K jj)<|C Z Z (fun jj => o_idxo Z Z (by omega) (by omega) K jj)<|c_val Z Z (fun _ _ _ _ jj => o_loade 1 Z Z (eltW (by (try simp only [List.length_set]); omega)) rfl rfl K jj)<|C Z Z (fun jj => F Z Z K K jj) ?_
         refine c_box Z Z (fun _ _ _ _ jj => O 3 Z Z Z Z K jj)<|C Z Z (fun jj => F Z Z K K jj)<|c_box Z Z (fun _ _ _ _ jj => O 2 Z Z Z Z K jj)<|C Z Z (fun jj => o_idxv Z Z (by omega) (eltIn (by omega)) rfl K jj)<|c_val Z Z (fun _ _ _ _ jj => o_loadv Z Z K jj)<|C Z Z (fun jj => o_add Z Z (by have h1 := bal_bound hv e.a.toNat; have h2 := bal_bound hv e.b.toNat; have h3 := bal_bound hv e.c.toNat; unfold in64; (try dsimp only); omega) K jj) ?_
         refine C Z Z (fun jj => F Z Z K K jj)<|c_box Z Z (fun _ _ _ _ jj => O 2 Z Z Z Z K jj)<|C Z Z (fun jj => o_sub Z Z (by have h1 := bal_bound hv e.a.toNat; have h2 := bal_bound hv e.b.toNat; have h3 := bal_bound hv e.c.toNat; unfold in64; (try dsimp only); omega) K jj) ?_
         refine C Z Z (fun jj => o_idxo Z Z (by omega) (by omega) K jj) ?_
         refine c_sto (.cons_cons _ (.cons _ (.cons _ (.cons_cons _ (.cons_cons _ (.cons_cons _ (List.nil_sublist _))))))) rfl rfl (fun _ _ _ _ jj => o_storee 1 Z Z (eltW (by (try simp only [List.length_set]); omega)) rfl rfl rfl rfl (by simp [encI]) jj) ?_
         refine c_nil ?_
         have hk : e.kind = 3 := by simp_all
         exact join rfl ⟨(bitM w.alive e.b && bitM w.alive e.c), rvalid (outsideM w.blocks e.a e.b e.c e.f e.to), ⟨w.alive, w.ever, (outsideM w.blocks e.a e.b e.c e.f e.to), ((w.bal.set e.b.toNat ((w.bal.getD e.b.toNat 0) + e.m)).set e.c.toNat (((w.bal.set e.b.toNat ((w.bal.getD e.b.toNat 0) + e.m)).getD e.c.toNat 0) + (w.bal.getD e.a.toNat 0) - e.m)), w.lev⟩, (outsideM w.blocks e.a e.b e.c e.f e.to).isEmpty, (by unfold preR; simp [hk]), ⟨by simp [hlb], by simp [hll], (by have := outsideM_len w.blocks e.a e.b e.c e.f e.to; dsimp only; omega)⟩⟩ (.of_eq (show _ = ([(x11, .box 32 [I w.alive, I w.ever, V ((outsideM w.blocks e.a e.b e.c e.f e.to).map encB) (outsideM w.blocks e.a e.b e.c e.f e.to).isEmpty, .os b1 1 0 8 c1, .os b2 1 0 8 c2]), (b1, .arr 3 1 (((w.bal.set e.b.toNat ((w.bal.getD e.b.toNat 0) + e.m)).set e.c.toNat (((w.bal.set e.b.toNat ((w.bal.getD e.b.toNat 0) + e.m)).getD e.c.toNat 0) + (w.bal.getD e.a.toNat 0) - e.m)).map encI) c1), (b2, .arr 3 1 (w.lev.map encI) c2), (x4, .box 32 [I 0, I 0, V [] true, V [] true, V [] true]), (x3, .box 41 [I e.kind, I e.t, I e.a, I e.b, I e.c, I e.f, I e.to, I e.m]), (x2, .box 32 (cellsW w f1 f2 f3))] : AHeap) from by simp only [Nat.zero_add, List.map_set]; rfl)) (.cons_cons _ (.cons_cons _ (.cons_cons _ (.cons_cons _ (.cons_cons _ (.cons_cons _ (List.nil_sublist _))))))) (subT.cons Z (subT.cons Z (subT.cons Z (subT.cons Z (subT.cons Z (subT.cons (congrArg (fun z => some (B z)) (by simp_all)) (subT.cons Z subT.nil)))))))
        ·
         have g23 : _ = false := g23
         refine U Z Z g23 K<|U Z Z g23 K<|U Z Z g23 K<|U Z Z g23 K<|o_pickf Z g23 rfl K<|S Z K<|o_nil<|h_seq<|H<|F Z Z K K<|O 5 Z Z Z Z K<|F Z Z K K ?_
         refine O 4 Z Z Z Z K<|F Z Z K K<|O 4 Z Z Z Z K<|F Z Z K K<|O 4 Z Z Z Z K<|F Z Z K K<|O 4 Z Z Z Z K<|o_call1 Z Z EntC.out K (outside_walk w.blocks (by omega) f1 e.a e.b e.c e.f e.to (fun z hz => can_car (valid_can hv.blk) z hz) hb0 hc0)<|S Z K<|o_nil<|h_seq<|H ?_
         refine G Z K<|F Z Z K K ?_
         refine o_store 0 Z Z Z Z Z Z<|o_nil<|h_seq<|H<|G Z K<|o_call1 Z Z EntC.out K (rvalid_spec (outsideM w.blocks e.a e.b e.c e.f e.to) (by have := outsideM_len w.blocks e.a e.b e.c e.f e.to; omega) _) ?_
         refine S Z K<|o_nil<|h_seq<|h_draw _ (.cons_cons _ (.cons _ (.cons _ (.cons_cons _ (.cons_cons _ (.cons_cons _ (List.nil_sublist _))))))) [(0, .flo), (1, .box), (2, .flo), (3, .box), (4, .flo), (5, .box), (6, .flo), (7, .box), (8, .flo), (9, .val), (10, .flo), (11, .box), (12, .flo), (13, .flo), (14, .sto)] mixed (by kernel_rfl)<|C Z Z (fun jj => F Z Z K K jj)<|c_box Z Z (fun _ _ _ _ jj => O 0 Z Z Z Z K jj)<|C Z Z (fun jj => F Z Z K K jj)<|c_box Z Z (fun _ _ _ _ jj => O 2 Z Z Z Z K jj)<|C Z Z (fun jj => F Z Z K K jj)<|c_box Z Z (fun _ _ _ _ jj => O 0 Z Z Z Z K jj)<|C Z Z (fun jj => F Z Z K K jj)<|c_box Z Z (fun _ _ _ _ jj => O 2 Z Z Z Z K jj) ?_
         refine C Z Z (fun jj => o_idxo Z Z (by omega) (by omega) K jj)<|c_val Z Z (fun _ _ _ _ jj => o_loade 1 Z Z (eltW (by (try simp only [List.length_set]); omega)) rfl rfl K jj)<|C Z Z (fun jj => F Z Z K K jj)<|c_box Z Z (fun _ _ _ _ jj => O 2 Z Z Z Z K jj)<|C Z Z (fun jj => o_add Z Z (by have h1 := bal_bound hv e.a.toNat; have h2 := bal_bound hv e.b.toNat; have h3 := bal_bound hv e.c.toNat; unfold in64; (try dsimp only); omega) K jj) ?_
         refine C Z Z (fun jj => o_idxo Z Z (by omega) (by omega) K jj) ?_
         refine c_sto (.cons_cons _ (.cons _ (.cons _ (.cons_cons _ (.cons_cons _ (.cons_cons _ (List.nil_sublist _))))))) rfl rfl (fun _ _ _ _ jj => o_storee 1 Z Z (eltW (by (try simp only [List.length_set]); omega)) rfl rfl rfl rfl (by simp [encI]) jj) ?_
         refine c_nil<|h_heap (h' := [(x11, .box 32 [I w.alive, I w.ever, V ((outsideM w.blocks e.a e.b e.c e.f e.to).map encB) (outsideM w.blocks e.a e.b e.c e.f e.to).isEmpty, .os b1 1 0 8 c1, .os b2 1 0 8 c2]), (b1, .arr 3 1 ((w.bal.set e.b.toNat ((w.bal.getD e.b.toNat 0) + e.m)).map encI) c1), (b2, .arr 3 1 (w.lev.map encI) c2), (x4, .box 32 [I 0, I 0, V [] true, V [] true, V [] true]), (x3, .box 41 [I e.kind, I e.t, I e.a, I e.b, I e.c, I e.f, I e.to, I e.m]), (x2, .box 32 (cellsW w f1 f2 f3))]) (by simp only [Nat.zero_add, List.map_set]; rfl) ?_
         refine h_draw _ (.cons_cons _ (.cons _ (.cons _ (.cons_cons _ (.cons_cons _ (.cons_cons _ (List.nil_sublist _))))))) [(0, .flo), (1, .box), (2, .flo), (3, .box), (4, .flo), (5, .box), (6, .flo), (7, .box), (8, .flo), (9, .val), (10, .flo), (11, .box), (12, .flo), (13, .box), (14, .flo), (15, .val), (16, .flo), (17, .flo), (18, .box), (19, .flo), (20, .flo), (21, .sto)] mixed (by kernel_rfl)<|C Z Z (fun jj => F Z Z K K jj)<|c_box Z Z (fun _ _ _ _ jj => O 0 Z Z Z Z K jj)<|C Z Z (fun jj => F Z Z K K jj)<|c_box Z Z (fun _ _ _ _ jj => O 2 Z Z Z Z K jj)<|C Z Z (fun jj => F Z Z K K jj)<|c_box Z Z (fun _ _ _ _ jj => O 0 Z Z Z Z K jj)<|C Z Z (fun jj => F Z Z K K jj)<|c_box Z Z (fun _ _ _ _ jj => O 2 Z Z Z Z K jj)<|C Z Z (fun jj => o_idxo Z Z (by omega) (by omega) K jj)<|c_val Z Z (fun _ _ _ _ jj => o_loade 1 Z Z (eltW (by (try simp only [List.length_set]); omega)) rfl rfl K jj)<|C Z Z (fun jj => F Z Z K K jj) ?_
         refine c_box Z Z (fun _ _ _ _ jj => O 3 Z Z Z Z K jj)<|C Z Z (fun jj => F Z Z K K jj)<|c_box Z Z (fun _ _ _ _ jj => O 2 Z Z Z Z K jj)<|C Z Z (fun jj => o_idxv Z Z (by omega) (eltIn (by omega)) rfl K jj)<|c_val Z Z (fun _ _ _ _ jj => o_loadv Z Z K jj)<|C Z Z (fun jj => o_add Z Z (by have h1 := bal_bound hv e.a.toNat; have h2 := bal_bound hv e.b.toNat; have h3 := bal_bound hv e.c.toNat; unfold in64; (try dsimp only); omega) K jj) ?_
         refine C Z Z (fun jj => F Z Z K K jj)<|c_box Z Z (fun _ _ _ _ jj => O 2 Z Z Z Z K jj)<|C Z Z (fun jj => o_sub Z Z (by have h1 := bal_bound hv e.a.toNat; have h2 := bal_bound hv e.b.toNat; have h3 := bal_bound hv e.c.toNat; unfold in64; (try dsimp only); omega) K jj) ?_
         refine C Z Z (fun jj => o_idxo Z Z (by omega) (by omega) K jj) ?_
         refine c_sto (.cons_cons _ (.cons _ (.cons _ (.cons_cons _ (.cons_cons _ (.cons_cons _ (List.nil_sublist _))))))) rfl rfl (fun _ _ _ _ jj => o_storee 1 Z Z (eltW (by (try simp only [List.length_set]); omega)) rfl rfl rfl rfl (by simp [encI]) jj) ?_
         refine c_nil ?_
         have hk : e.kind = 3 := by simp_all
         exact join rfl ⟨(bitM w.alive e.b && bitM w.alive e.c), rvalid (outsideM w.blocks e.a e.b e.c e.f e.to), ⟨w.alive, w.ever, (outsideM w.blocks e.a e.b e.c e.f e.to), ((w.bal.set e.b.toNat ((w.bal.getD e.b.toNat 0) + e.m)).set e.c.toNat (((w.bal.set e.b.toNat ((w.bal.getD e.b.toNat 0) + e.m)).getD e.c.toNat 0) + (w.bal.getD e.a.toNat 0) - e.m)), w.lev⟩, (outsideM w.blocks e.a e.b e.c e.f e.to).isEmpty, (by unfold preR; simp [hk]), ⟨by simp [hlb], by simp [hll], (by have := outsideM_len w.blocks e.a e.b e.c e.f e.to; dsimp only; omega)⟩⟩ (.of_eq (show _ = ([(x11, .box 32 [I w.alive, I w.ever, V ((outsideM w.blocks e.a e.b e.c e.f e.to).map encB) (outsideM w.blocks e.a e.b e.c e.f e.to).isEmpty, .os b1 1 0 8 c1, .os b2 1 0 8 c2]), (b1, .arr 3 1 (((w.bal.set e.b.toNat ((w.bal.getD e.b.toNat 0) + e.m)).set e.c.toNat (((w.bal.set e.b.toNat ((w.bal.getD e.b.toNat 0) + e.m)).getD e.c.toNat 0) + (w.bal.getD e.a.toNat 0) - e.m)).map encI) c1), (b2, .arr 3 1 (w.lev.map encI) c2), (x4, .box 32 [I 0, I 0, V [] true, V [] true, V [] true]), (x3, .box 41 [I e.kind, I e.t, I e.a, I e.b, I e.c, I e.f, I e.to, I e.m]), (x2, .box 32 (cellsW w f1 f2 f3))] : AHeap) from by simp only [Nat.zero_add, List.map_set]; rfl)) (.cons_cons _ (.cons_cons _ (.cons_cons _ (.cons_cons _ (.cons_cons _ (.cons_cons _ (List.nil_sublist _))))))) (subT.cons Z (subT.cons Z (subT.cons Z (subT.cons Z (subT.cons Z (subT.cons (congrArg (fun z => some (B z)) (by simp_all)) (subT.cons Z subT.nil)))))))
       ·
        refine h_seq<|h_seq ?_
        have hlv := lev_bound hv e.a.toNat
        refine H<|S Z K<|o_nil<|h_block ?_
        have hk : ¬ e.kind = 1 ∧ ¬ e.kind = 2 ∧ ¬ e.kind = 3 := by simp_all
        refine h_famS (ι := {k : Nat // k ≤ 8}) (fun i => [(2, .ptr x2 0), (3, .ptr x3 0), (4, .ptr x4 0), (5, I 0), (6, .ptr x11 0), (7, B (upOk w e i.1)), (8, B true), (10, I (i.1 : Nat))]) (fun i => (x11, .box 32 [I w.alive, I w.ever, V (w.blocks.map encB) fc, .os b1 1 0 8 c1, .os b2 1 0 8 c2]) :: (b1, .arr 3 1 (w.bal.map encI) c1) :: (b2, .arr 3 1 (w.lev.map encI) c2) :: (x4, .box 32 [I 0, I 0, V [] true, V [] true, V [] true]) :: (x3, .box 41 [I e.kind, I e.t, I e.a, I e.b, I e.c, I e.f, I e.to, I e.m]) :: (x2, .box 32 (cellsW w f1 f2 f3)) :: []) (fun i => 8 - i.1) ⟨0, Nat.zero_le _⟩ (.cons_cons _ (.cons_cons _ (.cons_cons _ (.cons_cons _ (.cons_cons _ (.cons_cons _ (.refl _))))))) (subT.cons Z (subT.cons Z (subT.cons Z (subT.cons Z (subT.cons Z (subT.cons Z (subT.cons Z (subT.cons Z subT.nil)))))))) ?_
        rintro ⟨k, hk8⟩
        dsimp only
        by_cases hlt : k < 8
        ·
         refine h_seq<|h_seq<|H<|G Z K<|o_cmp Z Z Z K<|o_nil<|h_condt Z (by simp; omega) ?_
         refine h_skip<|h_seq<|h_block<|h_draw _ (List.nil_sublist _) [(0, .flo), (1, .flo), (2, .flo), (3, .val), (4, .flo), (5, .flo), (6, .flo), (7, .flo), (8, .flo), (9, .val), (10, .flo), (11, .flo), (12, .val), (13, .flo), (14, .val), (15, .flo), (16, .val), (17, .flo), (18, .val), (19, .flo), (20, .flo), (21, .flo), (22, .flo)] mixed (by kernel_rfl)<|C Z Z (fun jj => G Z K jj)<|C Z Z (fun jj => G Z K jj)<|c_split (t := 37) rfl (fun g29 => ?_) (fun g29 => ?_)
         ·
          have g29 : _ = true := g29
          refine C Z Z (fun jj => W Z Z g29 K (F Z Z K K jj))<|c_val Z Z (fun _ _ _ _ jj => W Z Z g29 K (O 5 Z Z Z Z K jj))<|C Z Z (fun jj => W Z Z g29 K (G Z K jj)) ?_
          refine C Z Z (fun jj => W Z Z g29 K (o_call1 Z Z EntC.out K (bit42_spec _ _ (by first | omega | (have := formed_car (e := e) (by simp_all); omega)) (by first | omega | (have := formed_car (e := e) (by simp_all); omega))) jj)) ?_
          refine C Z Z (fun jj => W Z Z g29 K (o_not Z K jj))<|C Z Z (fun jj => W Z Z g29 K (G Z K jj))<|c_split (t := 43) rfl (fun g31 => ?_) (fun g31 => ?_)
          ·
           have g31 : _ = true := g31
           refine C Z Z (fun jj => U Z Z g31 K jj)<|c_val Z Z (fun _ _ _ _ jj => U Z Z g31 K jj)<|C Z Z (fun jj => U Z Z g31 K jj)<|C Z Z (fun jj => U Z Z g31 K jj)<|c_val Z Z (fun _ _ _ _ jj => U Z Z g31 K jj)<|C Z Z (fun jj => U Z Z g31 K jj)<|c_val Z Z (fun _ _ _ _ jj => U Z Z g31 K jj)<|C Z Z (fun jj => U Z Z g31 K jj)<|c_val Z Z (fun _ _ _ _ jj => U Z Z g31 K jj)<|C Z Z (fun jj => U Z Z g31 K jj)<|c_val Z Z (fun _ _ _ _ jj => U Z Z g31 K jj)<|C Z Z (fun jj => U Z Z g31 K jj) ?_
           refine C Z Z (fun jj => W Z Z g29 K (o_pickt Z g31 rfl K jj))<|C Z Z (fun jj => o_pickt Z g29 rfl K jj)<|C Z Z (fun jj => S Z K jj)<|c_nil<|H<|G Z K<|o_add Z Z (by have h1 := bal_bound hv e.a.toNat; have h2 := bal_bound hv e.b.toNat; have h3 := bal_bound hv e.c.toNat; unfold in64; (try dsimp only); omega) K ?_
           refine S Z K<|o_nil<|back rfl ⟨k + 1, hlt⟩ (by dsimp only; omega) (.cons_cons _ (.cons_cons _ (.cons_cons _ (.cons_cons _ (.cons_cons _ (.cons_cons _ (.refl _))))))) (subT.cons Z (subT.cons Z (subT.cons Z (subT.cons Z (subT.cons Z (subT.cons (congrArg (fun z => some (B z)) (by simp only [upOk]; simp_all)) (subT.cons Z (subT.cons Z subT.nil))))))))
          ·
           have g31 : _ = false := g31
           refine C Z Z (fun jj => W Z Z g31 K (F Z Z K K jj))<|c_val Z Z (fun _ _ _ _ jj => W Z Z g31 K (O 5 Z Z Z Z K jj))<|C Z Z (fun jj => W Z Z g31 K (G Z K jj))<|C Z Z (fun jj => W Z Z g31 K (o_idxv Z Z (by omega) (eltIn (by omega)) rfl K jj))<|c_val Z Z (fun _ _ _ _ jj => W Z Z g31 K (o_loadv Z Z K jj))<|C Z Z (fun jj => W Z Z g31 K (F Z Z K K jj))<|c_val Z Z (fun _ _ _ _ jj => W Z Z g31 K (O 5 Z Z Z Z K jj))<|C Z Z (fun jj => W Z Z g31 K (F Z Z K K jj))<|c_val Z Z (fun _ _ _ _ jj => W Z Z g31 K (O 4 Z Z Z Z K jj))<|C Z Z (fun jj => W Z Z g31 K (o_idxv Z Z (by omega) (eltIn (by omega)) rfl K jj))<|c_val Z Z (fun _ _ _ _ jj => W Z Z g31 K (o_loadv Z Z K jj))<|C Z Z (fun jj => W Z Z g31 K (o_cmp Z Z Z K jj)) ?_
           refine C Z Z (fun jj => W Z Z g29 K (o_pickf Z g31 rfl K jj))<|C Z Z (fun jj => o_pickt Z g29 rfl K jj)<|C Z Z (fun jj => S Z K jj)<|c_nil<|H<|G Z K<|o_add Z Z (by have h1 := bal_bound hv e.a.toNat; have h2 := bal_bound hv e.b.toNat; have h3 := bal_bound hv e.c.toNat; unfold in64; (try dsimp only); omega) K ?_
           refine S Z K<|o_nil<|back rfl ⟨k + 1, hlt⟩ (by dsimp only; omega) (.cons_cons _ (.cons_cons _ (.cons_cons _ (.cons_cons _ (.cons_cons _ (.cons_cons _ (.refl _))))))) (subT.cons Z (subT.cons Z (subT.cons Z (subT.cons Z (subT.cons Z (subT.cons (congrArg (fun z => some (B z)) (by simp only [upOk]; simp_all)) (subT.cons Z (subT.cons Z subT.nil))))))))
         ·
          have g29 : _ = false := g29
          refine C Z Z (fun jj => U Z Z g29 K jj)<|c_val Z Z (fun _ _ _ _ jj => U Z Z g29 K jj)<|C Z Z (fun jj => U Z Z g29 K jj)<|C Z Z (fun jj => U Z Z g29 K jj)<|C Z Z (fun jj => U Z Z g29 K jj)<|C Z Z (fun jj => U Z Z g29 K jj)<|C Z Z (fun jj => o_guardx Z Z K jj)<|c_val Z Z (fun _ _ _ _ jj => o_guardx Z Z K jj)<|C Z Z (fun jj => o_guardx Z Z K jj)<|C Z Z (fun jj => o_guardx Z Z K jj)<|c_val Z Z (fun _ _ _ _ jj => o_guardx Z Z K jj)<|C Z Z (fun jj => o_guardx Z Z K jj) ?_
          refine c_val Z Z (fun _ _ _ _ jj => o_guardx Z Z K jj)<|C Z Z (fun jj => o_guardx Z Z K jj)<|c_val Z Z (fun _ _ _ _ jj => o_guardx Z Z K jj)<|C Z Z (fun jj => o_guardx Z Z K jj)<|c_val Z Z (fun _ _ _ _ jj => o_guardx Z Z K jj)<|C Z Z (fun jj => o_guardx Z Z K jj)<|C Z Z (fun jj => U Z Z g29 K jj)<|C Z Z (fun jj => o_pickf Z g29 rfl K jj)<|C Z Z (fun jj => S Z K jj)<|c_nil<|H<|G Z K ?_
          refine o_add Z Z (by have h1 := bal_bound hv e.a.toNat; have h2 := bal_bound hv e.b.toNat; have h3 := bal_bound hv e.c.toNat; unfold in64; (try dsimp only); omega) K ?_
          refine S Z K<|o_nil<|back rfl ⟨k + 1, hlt⟩ (by dsimp only; omega) (.cons_cons _ (.cons_cons _ (.cons_cons _ (.cons_cons _ (.cons_cons _ (.cons_cons _ (.refl _))))))) (subT.cons Z (subT.cons Z (subT.cons Z (subT.cons Z (subT.cons Z (subT.cons (congrArg (fun z => some (B z)) (by simp only [upOk]; simp_all)) (subT.cons Z (subT.cons Z subT.nil))))))))
        ·
         obtain rfl : k = 8 := by omega
         refine h_seq<|h_seq<|H<|G Z K<|o_cmp Z Z Z K<|o_nil<|h_condf Z (by simp <;> omega) ?_
         refine h_exit<|H<|F Z Z K K<|O 0 Z Z Z Z K<|F Z Z K K<|O 4 Z Z Z Z K<|o_idxo Z Z (by omega) (by omega) K<|o_loade 2 Z Z (eltW (by (try simp only [List.length_set]); omega)) rfl rfl K<|o_add Z Z (by have h1 := bal_bound hv e.a.toNat; have h2 := bal_bound hv e.b.toNat; have h3 := bal_bound hv e.c.toNat; unfold in64; (try dsimp only); omega) K ?_
         refine o_idxo Z Z (by omega) (by omega) K ?_
         refine o_storee 2 Z Z (eltW (by (try simp only [List.length_set]); omega)) rfl rfl rfl rfl (by simp [encI]) ?_
         exact o_nil<|join rfl ⟨upOk w e 8, true, ⟨w.alive, w.ever, w.blocks, w.bal, (w.lev.set e.a.toNat ((w.lev.getD e.a.toNat 0) + 1))⟩, fc, (by unfold preR; simp [hk]), ⟨by simp [hlb], by simp [hll], (by dsimp only; omega)⟩⟩ (.of_eq (show _ = ([(x11, .box 32 [I w.alive, I w.ever, V (w.blocks.map encB) fc, .os b1 1 0 8 c1, .os b2 1 0 8 c2]), (b1, .arr 3 1 (w.bal.map encI) c1), (b2, .arr 3 1 ((w.lev.set e.a.toNat ((w.lev.getD e.a.toNat 0) + 1)).map encI) c2), (x4, .box 32 [I 0, I 0, V [] true, V [] true, V [] true]), (x3, .box 41 [I e.kind, I e.t, I e.a, I e.b, I e.c, I e.f, I e.to, I e.m]), (x2, .box 32 (cellsW w f1 f2 f3))] : AHeap) from by simp only [Nat.zero_add, List.map_set]; rfl)) (.cons_cons _ (.cons_cons _ (.cons_cons _ (.cons_cons _ (.cons_cons _ (.cons_cons _ (List.nil_sublist _))))))) (subT.cons Z (subT.cons Z (subT.cons Z (subT.cons Z (subT.cons Z (subT.cons Z (subT.cons Z subT.nil)))))))
    ·
     rintro ⟨one, two, out, fl, hpre, hgd⟩
     dsimp only
     refine h_seq<|h_seq ?_
     have hob := hgd.lb
     have hol := hgd.ll
     refine H<|F Z Z K K<|O 4 Z Z Z Z K<|o_cmp Z Z Z K<|G Z K<|o_guard Z Z K (fun g35 => ?_) (fun g35 => ?_)
     ·
      have g35 : _ = false := g35
      refine F Z Z K K<|W Z Z g35 K<|O 4 Z Z Z Z K<|W Z Z g35 K<|o_cmp Z Z Z K<|o_pickf Z g35 rfl K<|o_nil<|h_cond Z (fun c37 => ?_) (fun c37 => ?_)
      ·
       refine h_seq<|h_draw _ (.cons _ (.cons _ (.cons _ (.cons_cons _ (.cons_cons _ (.cons_cons _ (List.nil_sublist _))))))) [(0, .flo), (1, .box), (2, .flo), (3, .box), (4, .flo), (5, .flo), (6, .flo), (7, .sto)] mixed (by kernel_rfl)<|C Z Z (fun jj => F Z Z K K jj)<|c_box Z Z (fun _ _ _ _ jj => O 2 Z Z Z Z K jj)<|C Z Z (fun jj => F Z Z K K jj)<|c_box Z Z (fun _ _ _ _ jj => O 1 Z Z Z Z K jj)<|C Z Z (fun jj => o_shl Z Z (by omega) (by omega) (by first | exact pow_small hb0 hb7 | exact pow_small ha0 ha7) K jj) ?_
       refine C Z Z (fun jj => o_bits K rfl rfl K jj)<|C Z Z (fun jj => F Z Z K K jj) ?_
       refine c_sto (.cons _ (.cons _ (.cons _ (.cons_cons _ (.cons_cons _ (.cons_cons _ (List.nil_sublist _))))))) rfl rfl (fun _ _ _ _ jj => o_store 0 Z Z Z Z Z Z jj)<|c_nil<|h_seq<|H<|F Z Z K K<|O 0 Z Z Z Z K<|F Z Z K K<|O 4 Z Z Z Z K<|o_idxo Z Z (by omega) (by omega) K ?_
       refine o_storee 1 Z Z (eltW (by (try simp only [List.length_set]); omega)) rfl rfl rfl rfl (by simp [encI]) ?_
       refine o_nil<|h_heap (h' := [(x11, .box 32 [I (bits64 .andNot w.alive (1 * 2 ^ e.a.toNat)), I out.ever, V (out.blocks.map encB) fl, .os b1 1 0 8 c1, .os b2 1 0 8 c2]), (b1, .arr 3 1 ((out.bal.set e.a.toNat 0).map encI) c1), (b2, .arr 3 1 (out.lev.map encI) c2), (x4, .box 32 [I 0, I 0, V [] true, V [] true, V [] true]), (x3, .box 41 [I e.kind, I e.t, I e.a, I e.b, I e.c, I e.f, I e.to, I e.m]), (x2, .box 32 (cellsW w f1 f2 f3))]) (by simp only [Nat.zero_add, List.map_set]; rfl) ?_
       refine H<|F Z Z K K<|O 0 Z Z Z Z K<|F Z Z K K<|O 4 Z Z Z Z K<|o_idxo Z Z (by omega) (by omega) K ?_
       refine o_storee 2 Z Z (eltW (by (try simp only [List.length_set]); omega)) rfl rfl rfl rfl (by simp [encI]) ?_
       refine o_nil<|h_heap (h' := [(x11, .box 32 [I (bits64 .andNot w.alive (1 * 2 ^ e.a.toNat)), I out.ever, V (out.blocks.map encB) fl, .os b1 1 0 8 c1, .os b2 1 0 8 c2]), (b1, .arr 3 1 ((out.bal.set e.a.toNat 0).map encI) c1), (b2, .arr 3 1 ((out.lev.set e.a.toNat 0).map encI) c2), (x4, .box 32 [I 0, I 0, V [] true, V [] true, V [] true]), (x3, .box 41 [I e.kind, I e.t, I e.a, I e.b, I e.c, I e.f, I e.to, I e.m]), (x2, .box 32 (cellsW w f1 f2 f3))]) (by simp only [Nat.zero_add, List.map_set]; rfl) ?_
       refine h_seq<|h_seq<|h_frzR (⟨(bits64 .andNot w.alive (1 * 2 ^ e.a.toNat)), out.ever, out.blocks, (out.bal.set e.a.toNat 0), (out.lev.set e.a.toNat 0)⟩ : Wd) fl x11 b1 b2 c1 c2 (by simp [hob]) (by simp [hol]) hc1 hc2 (rest := [(x4, .box 32 [I 0, I 0, V [] true, V [] true, V [] true]), (x3, .box 41 [I e.kind, I e.t, I e.a, I e.b, I e.c, I e.f, I e.to, I e.m]), (x2, .box 32 (cellsW w f1 f2 f3))]) ?_
       refine H<|G Z K<|o_not Z K<|G Z K<|o_guard Z Z K (fun g38 => ?_) (fun g38 => ?_)
       ·
        have g38 : _ = false := g38
        refine G Z K<|W Z Z g38 K<|o_not Z K<|o_pickf Z g38 rfl K<|G Z K<|o_guard Z Z K (fun g39 => ?_) (fun g39 => ?_)
        ·
         have g39 : _ = false := g39
         refine O 0 Z Z Z Z K<|W Z Z g39 K<|o_call1 Z Z EntC.out K (rvalidW_spec (⟨(bits64 .andNot w.alive (1 * 2 ^ e.a.toNat)), out.ever, out.blocks, (out.bal.set e.a.toNat 0), (out.lev.set e.a.toNat 0)⟩ : Wd) (by have := hgd.bl; dsimp only; omega) _ _ _) ?_
         refine W Z Z g39 K<|o_not Z K<|o_pickf Z g39 rfl K<|o_nil<|h_cond Z (fun c41 => ?_) (fun c41 => ?_)
         ·
          refine h_seq<|H<|o_build Z Z K ?_
          refine o_store 1 Z Z Z Z Z Z<|S Z K<|o_nil<|h_ret ?_
          have hoe : endR w out e = (⟨(bits64 .andNot w.alive (1 * 2 ^ e.a.toNat)), out.ever, out.blocks, (out.bal.set e.a.toNat 0), (out.lev.set e.a.toNat 0)⟩ : Wd) := by unfold endR; rw [if_pos (by simp_all)]
          have hq : stepRM w e = (wd0, 420) := by unfold stepRM okR; rw [hpre]; dsimp only; rw [hoe, if_neg (by simp_all), if_pos (by simp_all)]
          exact retG [] (.cons (resC 1 rfl rfl rfl) (.cons (resT rfl) .nil)) (List.nil_sublist _) ⟨_, rfl, rfl, true, true, true, by rw [hq]; rfl⟩
         ·
          refine h_skip<|h_seq<|H<|O 0 Z Z Z Z K ?_
          refine o_store 1 Z Z Z Z Z Z<|S Z K<|o_nil<|h_ret ?_
          have hoe : endR w out e = (⟨(bits64 .andNot w.alive (1 * 2 ^ e.a.toNat)), out.ever, out.blocks, (out.bal.set e.a.toNat 0), (out.lev.set e.a.toNat 0)⟩ : Wd) := by unfold endR; rw [if_pos (by simp_all)]
          have hq : stepRM w e = ((⟨(bits64 .andNot w.alive (1 * 2 ^ e.a.toNat)), out.ever, out.blocks, (out.bal.set e.a.toNat 0), (out.lev.set e.a.toNat 0)⟩ : Wd), 0) := by unfold stepRM okR; rw [hpre]; dsimp only; rw [hoe, if_neg (by simp_all), if_neg (by simp_all)]
          exact retG [] (.cons (resC 1 rfl rfl rfl) (.cons (resT rfl) .nil)) (List.nil_sublist _) ⟨_, rfl, rfl, fl, false, false, by rw [hq]; rfl⟩
        ·
         have g39 : _ = true := g39
         refine U Z Z g39 K<|U Z Z g39 K<|o_pickt Z g39 rfl K<|o_nil<|h_condt Z Z<|h_seq<|H<|o_build Z Z K ?_
         refine o_store 1 Z Z Z Z Z Z<|S Z K<|o_nil<|h_ret ?_
         have hoe : endR w out e = (⟨(bits64 .andNot w.alive (1 * 2 ^ e.a.toNat)), out.ever, out.blocks, (out.bal.set e.a.toNat 0), (out.lev.set e.a.toNat 0)⟩ : Wd) := by unfold endR; rw [if_pos (by simp_all)]
         have hq : stepRM w e = (wd0, 420) := by unfold stepRM okR; rw [hpre]; dsimp only; rw [hoe, if_neg (by simp_all), if_pos (by simp_all)]
         exact retG [] (.cons (resC 1 rfl rfl rfl) (.cons (resT rfl) .nil)) (List.nil_sublist _) ⟨_, rfl, rfl, true, true, true, by rw [hq]; rfl⟩
       ·
        have g38 : _ = true := g38
        refine U Z Z g38 K<|o_pickt Z g38 rfl K<|G Z K<|U Z Z Z K<|U Z Z Z K<|U Z Z Z K<|o_pickt Z Z Z K<|o_nil<|h_condt Z Z<|h_seq<|H<|o_build Z Z K ?_
        refine o_store 1 Z Z Z Z Z Z<|S Z K<|o_nil<|h_ret ?_
        have hoe : endR w out e = (⟨(bits64 .andNot w.alive (1 * 2 ^ e.a.toNat)), out.ever, out.blocks, (out.bal.set e.a.toNat 0), (out.lev.set e.a.toNat 0)⟩ : Wd) := by unfold endR; rw [if_pos (by simp_all)]
        have hq : stepRM w e = (wd0, 420) := by unfold stepRM okR; rw [hpre]; dsimp only; rw [hoe, if_neg (by simp_all), if_pos (by simp_all)]
        exact retG [] (.cons (resC 1 rfl rfl rfl) (.cons (resT rfl) .nil)) (List.nil_sublist _) ⟨_, rfl, rfl, true, true, true, by rw [hq]; rfl⟩
      ·
       refine h_skip<|h_seq<|h_seq<|h_frzR (⟨out.alive, out.ever, out.blocks, out.bal, out.lev⟩ : Wd) fl x11 b1 b2 c1 c2 (by simp [hob]) (by simp [hol]) hc1 hc2 (rest := [(x4, .box 32 [I 0, I 0, V [] true, V [] true, V [] true]), (x3, .box 41 [I e.kind, I e.t, I e.a, I e.b, I e.c, I e.f, I e.to, I e.m]), (x2, .box 32 (cellsW w f1 f2 f3))]) ?_
       refine H<|G Z K<|o_not Z K<|G Z K<|o_guard Z Z K (fun g42 => ?_) (fun g42 => ?_)
       ·
        have g42 : _ = false := g42
        refine G Z K<|W Z Z g42 K<|o_not Z K<|o_pickf Z g42 rfl K<|G Z K<|o_guard Z Z K (fun g43 => ?_) (fun g43 => ?_)
        ·
         have g43 : _ = false := g43
         refine O 0 Z Z Z Z K<|W Z Z g43 K<|o_call1 Z Z EntC.out K (rvalidW_spec (⟨out.alive, out.ever, out.blocks, out.bal, out.lev⟩ : Wd) (by have := hgd.bl; dsimp only; omega) _ _ _) ?_
         refine W Z Z g43 K<|o_not Z K<|o_pickf Z g43 rfl K<|o_nil<|h_cond Z (fun c45 => ?_) (fun c45 => ?_)
         ·
          refine h_seq<|H<|o_build Z Z K ?_
          refine o_store 1 Z Z Z Z Z Z<|S Z K<|o_nil<|h_ret ?_
          have hoe : endR w out e = (⟨out.alive, out.ever, out.blocks, out.bal, out.lev⟩ : Wd) := by unfold endR; rw [if_neg (by simp_all)] <;> rfl
          have hq : stepRM w e = (wd0, 420) := by unfold stepRM okR; rw [hpre]; dsimp only; rw [hoe, if_neg (by simp_all), if_pos (by simp_all)]
          exact retG [] (.cons (resC 1 rfl rfl rfl) (.cons (resT rfl) .nil)) (List.nil_sublist _) ⟨_, rfl, rfl, true, true, true, by rw [hq]; rfl⟩
         ·
          refine h_skip<|h_seq<|H<|O 0 Z Z Z Z K ?_
          refine o_store 1 Z Z Z Z Z Z<|S Z K<|o_nil<|h_ret ?_
          have hoe : endR w out e = (⟨out.alive, out.ever, out.blocks, out.bal, out.lev⟩ : Wd) := by unfold endR; rw [if_neg (by simp_all)] <;> rfl
          have hq : stepRM w e = ((⟨out.alive, out.ever, out.blocks, out.bal, out.lev⟩ : Wd), 0) := by unfold stepRM okR; rw [hpre]; dsimp only; rw [hoe, if_neg (by simp_all), if_neg (by simp_all)]
          exact retG [] (.cons (resC 1 rfl rfl rfl) (.cons (resT rfl) .nil)) (List.nil_sublist _) ⟨_, rfl, rfl, fl, false, false, by rw [hq]; rfl⟩
        ·
         have g43 : _ = true := g43
         refine U Z Z g43 K<|U Z Z g43 K<|o_pickt Z g43 rfl K<|o_nil<|h_condt Z Z<|h_seq<|H<|o_build Z Z K ?_
         refine o_store 1 Z Z Z Z Z Z<|S Z K<|o_nil<|h_ret ?_
         have hoe : endR w out e = (⟨out.alive, out.ever, out.blocks, out.bal, out.lev⟩ : Wd) := by unfold endR; rw [if_neg (by simp_all)] <;> rfl
         have hq : stepRM w e = (wd0, 420) := by unfold stepRM okR; rw [hpre]; dsimp only; rw [hoe, if_neg (by simp_all), if_pos (by simp_all)]
         exact retG [] (.cons (resC 1 rfl rfl rfl) (.cons (resT rfl) .nil)) (List.nil_sublist _) ⟨_, rfl, rfl, true, true, true, by rw [hq]; rfl⟩
       ·
        have g42 : _ = true := g42
        refine U Z Z g42 K<|o_pickt Z g42 rfl K<|G Z K<|U Z Z Z K<|U Z Z Z K<|U Z Z Z K<|o_pickt Z Z Z K<|o_nil<|h_condt Z Z<|h_seq<|H<|o_build Z Z K ?_
        refine o_store 1 Z Z Z Z Z Z<|S Z K<|o_nil<|h_ret ?_
        have hoe : endR w out e = (⟨out.alive, out.ever, out.blocks, out.bal, out.lev⟩ : Wd) := by unfold endR; rw [if_neg (by simp_all)] <;> rfl
        have hq : stepRM w e = (wd0, 420) := by unfold stepRM okR; rw [hpre]; dsimp only; rw [hoe, if_neg (by simp_all), if_pos (by simp_all)]
        exact retG [] (.cons (resC 1 rfl rfl rfl) (.cons (resT rfl) .nil)) (List.nil_sublist _) ⟨_, rfl, rfl, true, true, true, by rw [hq]; rfl⟩
     ·
      have g35 : _ = true := g35
      refine U Z Z g35 K<|U Z Z g35 K<|o_pickt Z g35 rfl K<|o_nil<|h_condt Z Z<|h_seq<|h_draw _ (.cons _ (.cons _ (.cons _ (.cons_cons _ (.cons_cons _ (.cons_cons _ (List.nil_sublist _))))))) [(0, .flo), (1, .box), (2, .flo), (3, .box), (4, .flo), (5, .flo), (6, .flo), (7, .sto)] mixed (by kernel_rfl)<|C Z Z (fun jj => F Z Z K K jj)<|c_box Z Z (fun _ _ _ _ jj => O 2 Z Z Z Z K jj)<|C Z Z (fun jj => F Z Z K K jj)<|c_box Z Z (fun _ _ _ _ jj => O 1 Z Z Z Z K jj)<|C Z Z (fun jj => o_shl Z Z (by omega) (by omega) (by first | exact pow_small hb0 hb7 | exact pow_small ha0 ha7) K jj) ?_
      refine C Z Z (fun jj => o_bits K rfl rfl K jj)<|C Z Z (fun jj => F Z Z K K jj) ?_
      refine c_sto (.cons _ (.cons _ (.cons _ (.cons_cons _ (.cons_cons _ (.cons_cons _ (List.nil_sublist _))))))) rfl rfl (fun _ _ _ _ jj => o_store 0 Z Z Z Z Z Z jj)<|c_nil<|h_seq<|H<|F Z Z K K<|O 0 Z Z Z Z K<|F Z Z K K<|O 4 Z Z Z Z K<|o_idxo Z Z (by omega) (by omega) K ?_
      refine o_storee 1 Z Z (eltW (by (try simp only [List.length_set]); omega)) rfl rfl rfl rfl (by simp [encI]) ?_
      refine o_nil<|h_heap (h' := [(x11, .box 32 [I (bits64 .andNot w.alive (1 * 2 ^ e.a.toNat)), I out.ever, V (out.blocks.map encB) fl, .os b1 1 0 8 c1, .os b2 1 0 8 c2]), (b1, .arr 3 1 ((out.bal.set e.a.toNat 0).map encI) c1), (b2, .arr 3 1 (out.lev.map encI) c2), (x4, .box 32 [I 0, I 0, V [] true, V [] true, V [] true]), (x3, .box 41 [I e.kind, I e.t, I e.a, I e.b, I e.c, I e.f, I e.to, I e.m]), (x2, .box 32 (cellsW w f1 f2 f3))]) (by simp only [Nat.zero_add, List.map_set]; rfl) ?_
      refine H<|F Z Z K K<|O 0 Z Z Z Z K<|F Z Z K K<|O 4 Z Z Z Z K<|o_idxo Z Z (by omega) (by omega) K ?_
      refine o_storee 2 Z Z (eltW (by (try simp only [List.length_set]); omega)) rfl rfl rfl rfl (by simp [encI]) ?_
      refine o_nil<|h_heap (h' := [(x11, .box 32 [I (bits64 .andNot w.alive (1 * 2 ^ e.a.toNat)), I out.ever, V (out.blocks.map encB) fl, .os b1 1 0 8 c1, .os b2 1 0 8 c2]), (b1, .arr 3 1 ((out.bal.set e.a.toNat 0).map encI) c1), (b2, .arr 3 1 ((out.lev.set e.a.toNat 0).map encI) c2), (x4, .box 32 [I 0, I 0, V [] true, V [] true, V [] true]), (x3, .box 41 [I e.kind, I e.t, I e.a, I e.b, I e.c, I e.f, I e.to, I e.m]), (x2, .box 32 (cellsW w f1 f2 f3))]) (by simp only [Nat.zero_add, List.map_set]; rfl) ?_
      refine h_seq<|h_seq<|h_frzR (⟨(bits64 .andNot w.alive (1 * 2 ^ e.a.toNat)), out.ever, out.blocks, (out.bal.set e.a.toNat 0), (out.lev.set e.a.toNat 0)⟩ : Wd) fl x11 b1 b2 c1 c2 (by simp [hob]) (by simp [hol]) hc1 hc2 (rest := [(x4, .box 32 [I 0, I 0, V [] true, V [] true, V [] true]), (x3, .box 41 [I e.kind, I e.t, I e.a, I e.b, I e.c, I e.f, I e.to, I e.m]), (x2, .box 32 (cellsW w f1 f2 f3))]) ?_
      refine H<|G Z K<|o_not Z K<|G Z K<|o_guard Z Z K (fun g46 => ?_) (fun g46 => ?_)
      ·
       have g46 : _ = false := g46
       refine G Z K<|W Z Z g46 K<|o_not Z K<|o_pickf Z g46 rfl K<|G Z K<|o_guard Z Z K (fun g47 => ?_) (fun g47 => ?_)
       ·
        have g47 : _ = false := g47
        refine O 0 Z Z Z Z K<|W Z Z g47 K<|o_call1 Z Z EntC.out K (rvalidW_spec (⟨(bits64 .andNot w.alive (1 * 2 ^ e.a.toNat)), out.ever, out.blocks, (out.bal.set e.a.toNat 0), (out.lev.set e.a.toNat 0)⟩ : Wd) (by have := hgd.bl; dsimp only; omega) _ _ _) ?_
        refine W Z Z g47 K<|o_not Z K<|o_pickf Z g47 rfl K<|o_nil<|h_cond Z (fun c49 => ?_) (fun c49 => ?_)
        ·
         refine h_seq<|H<|o_build Z Z K ?_
         refine o_store 1 Z Z Z Z Z Z<|S Z K<|o_nil<|h_ret ?_
         have hoe : endR w out e = (⟨(bits64 .andNot w.alive (1 * 2 ^ e.a.toNat)), out.ever, out.blocks, (out.bal.set e.a.toNat 0), (out.lev.set e.a.toNat 0)⟩ : Wd) := by unfold endR; rw [if_pos (by simp_all)]
         have hq : stepRM w e = (wd0, 420) := by unfold stepRM okR; rw [hpre]; dsimp only; rw [hoe, if_neg (by simp_all), if_pos (by simp_all)]
         exact retG [] (.cons (resC 1 rfl rfl rfl) (.cons (resT rfl) .nil)) (List.nil_sublist _) ⟨_, rfl, rfl, true, true, true, by rw [hq]; rfl⟩
        ·
         refine h_skip<|h_seq<|H<|O 0 Z Z Z Z K ?_
         refine o_store 1 Z Z Z Z Z Z<|S Z K<|o_nil<|h_ret ?_
         have hoe : endR w out e = (⟨(bits64 .andNot w.alive (1 * 2 ^ e.a.toNat)), out.ever, out.blocks, (out.bal.set e.a.toNat 0), (out.lev.set e.a.toNat 0)⟩ : Wd) := by unfold endR; rw [if_pos (by simp_all)]
         have hq : stepRM w e = ((⟨(bits64 .andNot w.alive (1 * 2 ^ e.a.toNat)), out.ever, out.blocks, (out.bal.set e.a.toNat 0), (out.lev.set e.a.toNat 0)⟩ : Wd), 0) := by unfold stepRM okR; rw [hpre]; dsimp only; rw [hoe, if_neg (by simp_all), if_neg (by simp_all)]
         exact retG [] (.cons (resC 1 rfl rfl rfl) (.cons (resT rfl) .nil)) (List.nil_sublist _) ⟨_, rfl, rfl, fl, false, false, by rw [hq]; rfl⟩
       ·
        have g47 : _ = true := g47
        refine U Z Z g47 K<|U Z Z g47 K<|o_pickt Z g47 rfl K<|o_nil<|h_condt Z Z<|h_seq<|H<|o_build Z Z K ?_
        refine o_store 1 Z Z Z Z Z Z<|S Z K<|o_nil<|h_ret ?_
        have hoe : endR w out e = (⟨(bits64 .andNot w.alive (1 * 2 ^ e.a.toNat)), out.ever, out.blocks, (out.bal.set e.a.toNat 0), (out.lev.set e.a.toNat 0)⟩ : Wd) := by unfold endR; rw [if_pos (by simp_all)]
        have hq : stepRM w e = (wd0, 420) := by unfold stepRM okR; rw [hpre]; dsimp only; rw [hoe, if_neg (by simp_all), if_pos (by simp_all)]
        exact retG [] (.cons (resC 1 rfl rfl rfl) (.cons (resT rfl) .nil)) (List.nil_sublist _) ⟨_, rfl, rfl, true, true, true, by rw [hq]; rfl⟩
      ·
       have g46 : _ = true := g46
       refine U Z Z g46 K<|o_pickt Z g46 rfl K<|G Z K<|U Z Z Z K<|U Z Z Z K<|U Z Z Z K<|o_pickt Z Z Z K<|o_nil<|h_condt Z Z<|h_seq<|H<|o_build Z Z K ?_
       refine o_store 1 Z Z Z Z Z Z<|S Z K<|o_nil<|h_ret ?_
       have hoe : endR w out e = (⟨(bits64 .andNot w.alive (1 * 2 ^ e.a.toNat)), out.ever, out.blocks, (out.bal.set e.a.toNat 0), (out.lev.set e.a.toNat 0)⟩ : Wd) := by unfold endR; rw [if_pos (by simp_all)]
       have hq : stepRM w e = (wd0, 420) := by unfold stepRM okR; rw [hpre]; dsimp only; rw [hoe, if_neg (by simp_all), if_pos (by simp_all)]
       exact retG [] (.cons (resC 1 rfl rfl rfl) (.cons (resT rfl) .nil)) (List.nil_sublist _) ⟨_, rfl, rfl, true, true, true, by rw [hq]; rfl⟩
  ·
   have g8 : _ = true := g8
   refine U Z Z g8 K<|U Z Z g8 K<|U Z Z g8 K<|U Z Z g8 K<|U Z Z g8 K<|o_pickt Z g8 rfl K<|o_nil<|h_condt Z Z<|h_seq<|H<|o_build Z Z K ?_
   refine o_store 0 Z Z Z Z Z Z<|S Z K<|o_nil<|h_ret ?_
   have hq : stepRM w e = (wd0, 420) := by unfold stepRM okR; rw [if_pos (by simp_all)]
   exact retG [] (.cons (resC 0 rfl rfl rfl) (.cons (resT rfl) .nil)) (List.nil_sublist _) ⟨_, rfl, rfl, true, true, true, by rw [hq]; rfl⟩
 ·
  have g6 : _ = true := g6
  refine U Z Z g6 K<|U Z Z g6 K<|o_pickt Z g6 rfl K<|G Z K<|U Z Z Z K<|U Z Z Z K<|U Z Z Z K<|U Z Z Z K<|U Z Z Z K<|U Z Z Z K<|o_pickt Z Z Z K<|o_nil ?_
  refine h_condt Z Z<|h_seq<|H<|o_build Z Z K ?_
  refine o_store 0 Z Z Z Z Z Z<|S Z K<|o_nil<|h_ret ?_
  have hq : stepRM w e = (wd0, 420) := by unfold stepRM okR; rw [if_pos (by simp_all)]
  exact retG [] (.cons (resC 0 rfl rfl rfl) (.cons (resT rfl) .nil)) (List.nil_sublist _) ⟨_, rfl, rfl, true, true, true, by rw [hq]; rfl⟩

end Go.Proofs.YtnoicbajhlpndaaGreat
/- The reference's Step is the program's. -/
namespace Go.Proofs.YtnoicbajhlpndaaGreat
open Go Go.RowKit Go.Shelf Hp
set_option maxRecDepth 10000
set_option maxHeartbeats 1000000
set_option linter.unusedVariables false
set_option linter.unusedSimpArgs false
attribute [local irreducible] WP WPs FnX IterX YdX RetP PanP Ch Back Join
theorem full_some (e : Ev) : fullE e = someE e := by
  simp only [fullE, someE, rangeOk, moneyOk, inR_inM]
  rw [Bool.eq_iff_iff]; simp only [Bool.and_eq_true, decide_eq_true_eq, and_assoc]
theorem carOk_inM (n : Int) : inM n 0 7 = carOk n := by
  simp only [inM, carOk]; rw [Bool.eq_iff_iff]; simp only [Bool.and_eq_true, decide_eq_true_eq]
theorem okE_iff {w : Wd} {e : Ev} : okE w e = true ↔ (1 ≤ e.kind ∧ e.kind ≤ 4) ∧ inM e.t 0 10000000 = true ∧ (0 ≤ e.a ∧ e.a ≤ 7) ∧ (0 ≤ e.b ∧ e.b ≤ 7) ∧ (0 ≤ e.c ∧ e.c ≤ 7) ∧ hasC w.alive e.a = true := by
  simp only [okE, Bool.and_eq_true, decide_eq_true_eq, carOk_iff, and_assoc]
theorem okR_iff {w : Wd} {e : Ev} (hv : VParts w) : okR w e = true ↔ okE w e = true ∧ (e.kind = 1 → bareE e = true ∧ e.c = 0 ∧ e.a ≠ e.b) ∧ (e.kind = 2 → fullE e = true ∧ e.c = 0 ∧ e.a ≠ e.b) ∧ (e.kind = 3 → fullE e = true ∧ e.a ≠ e.b ∧ e.a ≠ e.c) ∧ (e.kind = 4 → bareE e = true ∧ e.b = 0 ∧ e.c = 0) := by
  have h0 : rvalidW w = true := by rw [rvalidW_eq]; exact (valid_iff w).2 hv
  obtain ⟨a0, a1⟩ := alive_range hv
  rw [okE_iff]
  simp only [okR, h0, Bool.true_and, Bool.and_eq_true, formedM, inR_inM, carOk_inM, carOk_iff, ← full_some]
  by_cases ha : 0 ≤ e.a ∧ e.a ≤ 7
  · rw [has_bit a0 a1 ha.1 ha.2]
    by_cases k1 : e.kind = 1
    · simp only [k1, if_true, Bool.and_eq_true, decide_eq_true_eq]; constructor <;> (intro h; simp_all)
    · by_cases k2 : e.kind = 2
      · simp only [k2, if_true, Bool.and_eq_true, decide_eq_true_eq]; constructor <;> (intro h; simp_all)
      · by_cases k3 : e.kind = 3
        · simp only [k3, if_true, Bool.and_eq_true, decide_eq_true_eq]; constructor <;> (intro h; simp_all)
        · simp only [k1, k2, k3, if_false, Bool.and_eq_true, decide_eq_true_eq]
          constructor
          · rintro ⟨⟨⟨⟨⟨h1, h2⟩, h3⟩, h4⟩, ⟨⟨h5, h6⟩, h7⟩, h8⟩, h9⟩
            exact ⟨⟨by omega, h1, h2, h3, h4, h9⟩, fun h => absurd h id, fun h => absurd h id, fun h => absurd h id, fun _ => ⟨h6, h7, h8⟩⟩
          · rintro ⟨⟨h0, h1, h2, h3, h4, h9⟩, _, _, _, h5⟩
            obtain ⟨h6, h7, h8⟩ := h5 (by omega)
            exact ⟨⟨⟨⟨⟨h1, h2⟩, h3⟩, h4⟩, ⟨⟨by omega, h6⟩, h7⟩, h8⟩, h9⟩
  · constructor
    · rintro ⟨⟨⟨⟨⟨_, h2⟩, _⟩, _⟩, _⟩, _⟩; exact absurd h2 ha
    · rintro ⟨⟨_, _, h2, _⟩, _⟩; exact absurd h2 ha
theorem upOk_iff (w : Wd) (e : Ev) (a0 : 0 ≤ w.alive) (a1 : w.alive ≤ 255) : ∀ k, k ≤ 8 → (upOk w e k = !(List.range k).any (badUp w e))
  | 0, _ => rfl
  | k + 1, hk => by
    have ih := upOk_iff w e a0 a1 k (by omega)
    rw [upOk, ih, List.range_succ, List.any_append]
    simp only [List.any_cons, List.any_nil, Bool.or_false, badUp, has_bit (i := (k : Int)) a0 a1 (by omega) (by omega)]
    rw [show decide (w.lev.getD k 0 ≥ w.lev.getD e.a.toNat 0) = !decide (w.lev.getD k 0 < w.lev.getD e.a.toNat 0) from by rw [Bool.eq_iff_iff]; simp]
    cases (List.range k).any (badUp w e) <;> cases bitM w.alive (k : Int) <;> cases decide (w.lev.getD k 0 < w.lev.getD e.a.toNat 0) <;> rfl
def optW : Option Wd → Wd × Int
  | some w' => if validW w' then (w', 0) else (wd0, 420)
  | none => (wd0, 420)
theorem match_step {w : Wd} {o : Option Wd} {e : Ev} (hv : VParts w) (ho : okE w e = true) (hd : doW w e = o) : stepM w e = optW o := by
  unfold stepM stepW
  rw [if_pos ((valid_iff w).2 hv), if_neg (by simp [ho]), hd]
  cases o with
  | none => rfl
  | some w' => simp only [optW]; cases validW w' <;> rfl
theorem getD_ne {l : List Int} {i j : Nat} {v : Int} (h : i ≠ j) : (l.set i v).getD j 0 = l.getD j 0 := by rw [getD_set, if_neg (by omega)]
/-- **The reference's Step is the program's.** -/
theorem stepRM_eq (w : Wd) (e : Ev) : stepRM w e = stepM w e := by
  by_cases hvw : validW w = true
  · have hv := (valid_iff w).1 hvw
    obtain ⟨a0, a1⟩ := alive_range hv
    obtain ⟨e0, e1⟩ := ever_rng hv
    have hoi := okR_iff (e := e) hv
    cases hok : okR w e with
    | true =>
      obtain ⟨ho, q1, q2, q3, q4⟩ := hoi.1 hok
      obtain ⟨hk, ht, hA, hB, hC, hal⟩ := okE_iff.1 ho
      have hbB := has_bit a0 a1 hB.1 hB.2
      have hbC := has_bit a0 a1 hC.1 hC.2
      have hbE := has_bit e0 e1 hB.1 hB.2
      unfold stepRM
      rw [if_neg (by simp [hok]), rvalidW_eq]
      have fin : ∀ {out : Wd} {b : Bool}, doW w e = (if b then some out else none) → ((preR w e).1 && (preR w e).2.1 && validW (endR w (preR w e).2.2 e)) = (b && validW (endR w (preR w e).2.2 e)) → (b = true → endR w (preR w e).2.2 e = out) →
          (if ((preR w e).1 && (preR w e).2.1 && validW (endR w (preR w e).2.2 e)) = false then (wd0, (420 : Int)) else (endR w (preR w e).2.2 e, 0)) = stepM w e := by
        intro out b h1 h2 h3
        rw [match_step hv ho h1, h2]
        cases b with
        | false => simp [optW]
        | true =>
          rw [h3 rfl]
          simp only [Bool.true_and, if_true, optW]
          cases validW out <;> simp
      have hk4 : e.kind = 1 ∨ e.kind = 2 ∨ e.kind = 3 ∨ e.kind = 4 := by omega
      rcases hk4 with k | k | k | k
      · obtain ⟨r1, r2, r3⟩ := q1 k
        obtain ⟨s1, s2⟩ := swap_all hv.blk hA hB
        have hh := hand_all hv.blk hA hB
        have hp : preR w e = _ := (by unfold preR; rw [if_pos k])
        refine fin (b := bitM w.alive e.b) (out := endW { w with blocks := (swapB w.blocks e.a e.b).1, bal := w.bal.set e.b.toNat (w.bal.getD e.b.toNat 0 + w.bal.getD e.a.toNat 0) } e.a) ?_ ?_ fun _ => ?_
        · rw [doW1 k]; unfold mergeW
          rw [r1, hbB]
          cases bitM w.alive e.b
          · rw [if_pos (by simp)]; rfl
          · rw [if_neg (by simp [r2, r3]), if_neg (by simp [s1]), if_pos rfl]
        · rw [hp]; simp only [hh, Bool.and_true]
        · rw [hp]; unfold endR; rw [if_pos (.inl k)]; simp only [hh]; rfl
      · obtain ⟨r1, r2, r3⟩ := q2 k
        have hne : e.a.toNat ≠ e.b.toNat := by omega
        have hp : preR w e = _ := (by unfold preR; rw [if_neg (show ¬ e.kind = 1 by omega), if_pos k])
        refine fin (b := !bitM w.ever e.b && (handM w.blocks e.a e.b e.f e.to).2) (out := { alive := bits64 .or w.alive (1 * 2 ^ e.b.toNat), ever := bits64 .or w.ever (1 * 2 ^ e.b.toNat), blocks := (overlayB w.blocks (swapB (onlyB w.blocks e.f e.to).1 e.a e.b).1).1, bal := (w.bal.set e.a.toNat (w.bal.getD e.a.toNat 0 - e.m)).set e.b.toNat e.m, lev := w.lev.set e.b.toNat (w.lev.getD e.a.toNat 0) }) ?_ ?_ fun _ => ?_
        · rw [doW2 k]; unfold splitW
          rw [r1, hbE]
          cases bitM w.ever e.b
          · rw [if_neg (by simp [r2])]
            simp only [handM, onlyR_eq, swapR_eq, overR_eq, Bool.not_false, Bool.true_and]
            by_cases h1 : (onlyB w.blocks e.f e.to).2 = 0
            · rw [if_neg (by simp [h1])]
              by_cases h2 : (swapB (onlyB w.blocks e.f e.to).1 e.a e.b).2 = 0
              · rw [if_neg (by simp [h2])]
                by_cases h3 : (overlayB w.blocks (swapB (onlyB w.blocks e.f e.to).1 e.a e.b).1).2 = 0
                · rw [if_neg (by simp [h3]), if_pos (by simp [h1, h2, h3])]
                · rw [if_pos h3, if_neg (by simp [h3])]
              · rw [if_pos h2, if_neg (by simp [h2])]
            · rw [if_pos h1, if_neg (by simp [h1])]
          · rw [if_pos (by simp)]; rfl
        · rw [hp]
        · rw [hp]; unfold endR; rw [if_neg (by omega)]
          simp only [handM, onlyR_eq, swapR_eq, overR_eq]
          rw [List.set_comm _ _ hne]
      · obtain ⟨r1, r2, r3⟩ := q3 k
        have hne : e.b.toNat ≠ e.a.toNat := by omega
        have hp : preR w e = _ := (by unfold preR; rw [if_neg (show ¬ e.kind = 1 by omega), if_neg (show ¬ e.kind = 2 by omega), if_pos k])
        have hr : rangeOk e.f e.to = true := by rw [full_some] at r1; simp only [someE, Bool.and_eq_true] at r1; exact r1.1
        obtain ⟨o1, o2, o3, o4⟩ := wind_outside hv.blk hr hA hB hC
        refine fin (b := bitM w.alive e.b && bitM w.alive e.c && rvalid (outsideM w.blocks e.a e.b e.c e.f e.to)) (out := endW { w with blocks := (overlayB (swapB w.blocks e.a e.c).1 (swapB (onlyB w.blocks e.f e.to).1 e.a e.b).1).1, bal := (windBal w e).set e.c.toNat ((windBal w e).getD e.c.toNat 0 + ((windBal w e).getD e.a.toNat 0 - e.m)) } e.a) ?_ ?_ fun hb => ?_
        · rw [doW3 k]; unfold windW
          rw [r1, hbB, hbC]
          cases bitM w.alive e.b
          · rw [if_pos (by simp)]; rfl
          · cases bitM w.alive e.c
            · rw [if_pos (by simp)]; rfl
            · rw [if_neg (by simp [r2, r3]), if_neg (by simp [o1]), if_neg (by simp [o2]), if_neg (by simp [o3]), o4]
              cases hrv : rvalid (outsideM w.blocks e.a e.b e.c e.f e.to)
              · simp
              · rw [if_pos rfl, if_neg (by simp)]; rfl
        · rw [hp]
        · simp only [Bool.and_eq_true] at hb
          rw [if_pos hb.2] at o4
          rw [hp]; unfold endR; rw [if_pos (.inr k), o4]
          simp only [endW, windBal]
          rw [getD_ne hne, show ∀ x y z : Int, x + (y - z) = x + y - z from fun x y z => by omega]
      · obtain ⟨r1, r2, r3⟩ := q4 k
        have hp : preR w e = _ := (by unfold preR; rw [if_neg (show ¬ e.kind = 1 by omega), if_neg (show ¬ e.kind = 2 by omega), if_neg (show ¬ e.kind = 3 by omega)])
        have hu := upOk_iff w e a0 a1 8 (Nat.le_refl _)
        refine fin (b := upOk w e 8) (out := { w with lev := w.lev.set e.a.toNat (w.lev.getD e.a.toNat 0 + 1) }) ?_ ?_ fun _ => ?_
        · rw [doW4 k]; unfold upW
          rw [hu, r1, if_neg (by simp [r2, r3])]
          cases (List.range 8).any (badUp w e) <;> rfl
        · rw [hp]; simp
        · rw [hp]; unfold endR; rw [if_neg (by omega)]
    | false =>
      unfold stepRM
      rw [if_pos hok]
      cases ho : okE w e with
      | false =>
        unfold stepM stepW
        rw [if_pos hvw, if_pos ho]
      | true =>
        obtain ⟨hk, ht, hA, hB, hC, hal⟩ := okE_iff.1 ho
        have hn : ¬ ((e.kind = 1 → bareE e = true ∧ e.c = 0 ∧ e.a ≠ e.b) ∧ (e.kind = 2 → fullE e = true ∧ e.c = 0 ∧ e.a ≠ e.b) ∧ (e.kind = 3 → fullE e = true ∧ e.a ≠ e.b ∧ e.a ≠ e.c) ∧ (e.kind = 4 → bareE e = true ∧ e.b = 0 ∧ e.c = 0)) := fun h => by
          rw [hoi.2 ⟨ho, h⟩] at hok; cases hok
        have hd : doW w e = none := by
          have hk4 : e.kind = 1 ∨ e.kind = 2 ∨ e.kind = 3 ∨ e.kind = 4 := by omega
          rcases hk4 with k | k | k | k
          · rw [doW1 k]; unfold mergeW
            rw [if_pos]
            cases hc : (bareE e && decide (e.c = 0) && hasC w.alive e.b && decide (e.a ≠ e.b)) with
            | false => rfl
            | true =>
              simp only [Bool.and_eq_true, decide_eq_true_eq] at hc
              exact absurd ⟨fun _ => ⟨hc.1.1.1, hc.1.1.2, hc.2⟩, fun h => by omega, fun h => by omega, fun h => by omega⟩ hn
          · rw [doW2 k]; unfold splitW
            rw [if_pos]
            cases hc : (fullE e && decide (e.c = 0) && !hasC w.ever e.b) with
            | false => rfl
            | true =>
              simp only [Bool.and_eq_true, decide_eq_true_eq, Bool.not_eq_true'] at hc
              refine absurd ⟨fun h => by omega, fun _ => ⟨hc.1.1, hc.1.2, fun hab => ?_⟩, fun h => by omega, fun h => by omega⟩ hn
              have := alive_ever hv hA.1 hA.2 hal
              rw [hab, hc.2] at this; cases this
          · rw [doW3 k]; unfold windW
            rw [if_pos]
            cases hc : (fullE e && hasC w.alive e.b && hasC w.alive e.c && decide (e.a ≠ e.b) && decide (e.a ≠ e.c)) with
            | false => rfl
            | true =>
              simp only [Bool.and_eq_true, decide_eq_true_eq] at hc
              exact absurd ⟨fun h => by omega, fun h => by omega, fun _ => ⟨hc.1.1.1.1, hc.1.2, hc.2⟩, fun h => by omega⟩ hn
          · rw [doW4 k]; unfold upW
            rw [if_pos]
            cases hc : (bareE e && decide (e.b = 0) && decide (e.c = 0)) with
            | false => rfl
            | true =>
              simp only [Bool.and_eq_true, decide_eq_true_eq] at hc
              exact absurd ⟨fun h => by omega, fun h => by omega, fun h => by omega, fun _ => ⟨hc.1.1, hc.1.2, hc.2⟩⟩ hn
        rw [match_step hv ho hd]; rfl
  · have h0 : okR w e = false := by simp only [okR, rvalidW_eq]; simp [hvw]
    unfold stepRM stepM
    rw [if_pos h0, if_neg hvw]
end Go.Proofs.YtnoicbajhlpndaaGreat
/- The walk of the reference's Events: some events that are possible. -/
namespace Go.Proofs.YtnoicbajhlpndaaGreat
open Go Go.RowKit Go.Shelf Hp
set_option maxRecDepth 10000
set_option maxHeartbeats 1000000
set_option linter.unusedVariables false
set_option linter.unusedSimpArgs false
attribute [local irreducible] WP WPs FnX IterX YdX RetP PanP Ch Back Join
structure T7 where
  y0 : Int
  y1 : Int
  y2 : Int
  y3 : Int
  y4 : Int
  y5 : Int
  y6 : Int
def d7 : T7 := ⟨0, 0, 0, 0, 0, 0, 0⟩
def enc7 (p : T7) : List PV := [pI p.y0, pI p.y1, pI p.y2, pI p.y3, pI p.y4, pI p.y5, pI p.y6]
theorem elt7 {l : List T7} {n : Int} (h : n.toNat < l.length) : (l.map enc7)[n.toNat]? = some (enc7 (l.getD n.toNat d7)) := by simp [h]
def ok7 (x : List T7) : Prop := ∀ k, k < x.length → in64 (x.getD k d7).y0 ∧ in64 (x.getD k d7).y1 ∧ in64 (x.getD k d7).y2 ∧ in64 (x.getD k d7).y3 ∧ in64 (x.getD k d7).y4 ∧ in64 (x.getD k d7).y5 ∧ in64 (x.getD k d7).y6
/-- Events that are possible, one after the other. -/
def PossL : Wd → Int → List Ev → Prop
  | _, _, [] => True
  | w, t, e :: l => GoodE t e ∧ (stepM w e).2 = 0 ∧ PossL (stepM w e).1 e.t l
def worldA (w : Wd) (l : List Ev) : Wd := l.foldl (fun u e => (stepM u e).1) w
def lastT : Int → List Ev → Int
  | t, [] => t
  | _, e :: l => lastT e.t l
theorem worldA_snoc (w : Wd) (l : List Ev) (e : Ev) : worldA w (l ++ [e]) = (stepM (worldA w l) e).1 := by simp [worldA]
theorem lastT_snoc (e : Ev) : ∀ (t : Int) (l : List Ev), lastT t (l ++ [e]) = e.t
  | _, [] => rfl
  | _, _ :: l => lastT_snoc e _ l
theorem possL_snoc {e : Ev} : ∀ {l : List Ev} {w : Wd} {t : Int}, PossL w t l → GoodE (lastT t l) e → (stepM (worldA w l) e).2 = 0 → PossL w t (l ++ [e])
  | [], w, t, _, hg, hs => ⟨hg, hs, trivial⟩
  | x :: l, w, t, ⟨h1, h2, h3⟩, hg, hs => ⟨h1, h2, possL_snoc (l := l) h3 hg hs⟩
theorem step_valid {w : Wd} {e : Ev} (h : (stepM w e).2 = 0) : VParts (stepM w e).1 := by
  by_cases hv : validW w = true
  · cases hs : stepW w e with
    | none => simp [stepM, hv, hs] at h
    | some w' => simp only [stepM, hv, hs, if_true]; exact (valid_iff w').1 (stepW_valid hs)
  · simp [stepM, hv] at h
theorem worldA_valid : ∀ {l : List Ev} {w : Wd} {t : Int}, VParts w → PossL w t l → VParts (worldA w l)
  | [], w, t, hv, _ => hv
  | e :: l, w, t, hv, ⟨h1, h2, h3⟩ => worldA_valid (l := l) (step_valid h2) h3
theorem lastT_rng : ∀ {l : List Ev} {w : Wd} {t : Int}, PossL w t l → t ≤ lastT t l ∧ lastT t l ≤ t + 4 * l.length
  | [], _, t, _ => by simp [lastT]
  | e :: l, w, t, ⟨h1, h2, h3⟩ => by
    have ih := lastT_rng (l := l) h3
    have := h1.t0; have := h1.t4
    simp only [lastT, List.length_cons]; omega
structure EvI (w : Wd) (n : Nat) where
  i : Nat
  l : List Ev
  g1 : Bool
  g2 : Bool
  g3 : Bool
  hi : i ≤ 8
  hl : l.length ≤ i
  hp : PossL w 0 l
  hn : l = []
structure EvJ (w : Wd) (n : Nat) where
  i : Nat
  ob : Nat
  c : Nat
  l : List Ev
  es : List (List PV)
  len : Nat
  g1 : Bool
  g2 : Bool
  g3 : Bool
  hi : i ≤ 8
  hl : l.length ≤ i
  hp : PossL w 0 l
  he : es = l.map encV
  hln : len = l.length
  hne : l ≠ []
  hc : len ≤ c

theorem events42_spec (w : Wd) (hv : VParts w) (f1 f2 f3 : Bool) (x : List T7) (hxl : x.length ≤ 1000000000) (hx : ok7 x) (fx : Bool) : Fc Tryz.prog 13 [encW w f1 f2 f3, V (x.map enc7) fx] [] (fun r h' => (∃ (l : List Ev) (f : Bool), r = V (l.map encV) f ∧ l.length ≤ 8 ∧ PossL w 0 l) ∧ h' = []) := by
 refine fnE_intro (N := 44) Tryz.func13 rfl rfl rfl ?_
 intro X
 refine h_seq<|H<|o_box Z Z K fun x1 => S Z K<|o_nil<|h_seq<|H<|S Z K<|o_nil<|h_seq<|H<|S Z K ?_
 refine o_nil<|h_seq<|h_seq<|H<|S Z K<|o_nil<|h_block<|h_famS (ι := (EvI w x.length) ⊕ (EvJ w x.length)) (fun i => match i with | .inl i => [(1, V (x.map enc7) fx), (2, .ptr x1 0), (5, V [] true), (6, I (lastT 0 i.l)), (7, I (i.i : Nat))] | .inr i => [(1, V (x.map enc7) fx), (2, .ptr x1 0), (5, .os i.ob 8 0 i.len i.c), (6, I (lastT 0 i.l)), (7, I (i.i : Nat))]) (fun i => match i with | .inl i => (x1, .box 32 (cellsW (worldA w i.l) i.g1 i.g2 i.g3)) :: [] | .inr i => (i.ob, .arr 41 8 i.es i.c) :: (x1, .box 32 (cellsW (worldA w i.l) i.g1 i.g2 i.g3)) :: []) (fun i => match i with | .inl i => x.length - i.i | .inr i => x.length - i.i) (.inl ⟨0, [], f1, f2, f3, by omega, by simp, trivial, rfl⟩) (.cons_cons _ (.refl _)) (subT.cons Z (subT.cons Z (subT.cons Z (subT.cons Z (subT.cons Z subT.nil))))) ?_
 rintro (⟨i, l, g1, g2, g3, hi, hl, hp, hn⟩ | ⟨i, ob, c, l, es, len, g1, g2, g3, hi, hl, hp, he, hln, hne, hc⟩)
 ·
  dsimp only
  by_cases hlt : i < x.length
  ·
   obtain ⟨h0, h1, h2, h3, h4, h5, h6⟩ := hx i hlt
   have hlr := lastT_rng hp
   have hwv := worldA_valid hv hp
   have hwb := valid_len hwv.blk
   refine h_seq<|h_seq<|H<|G Z K<|G Z K<|o_len Z K<|o_cmp Z Z Z K<|G Z K<|W Z Z (by simp; omega) K ?_
   refine G Z K<|W Z Z (by simp; omega) K ?_
   refine o_cmp Z Z Z K<|o_pickt Z (by simp; omega) rfl K ?_
   refine o_nil<|h_cond Z (fun c4 => ?_) (fun c4 => ?_)
   ·
    refine h_skip<|h_seq<|h_block<|h_seq<|h_drawA _ (.cons_cons _ (List.nil_sublist _)) [(0, .box), (1, .flo), (2, .flo), (3, .flo), (4, .flo), (5, .val), (6, .new), (7, .alc (.box 41 [I 0, I 0, I 0, I 0, I 0, I 0, I 0, I 0])), (8, .sto)] (alc_all ⟨alc_ok rfl K rfl, trivial⟩) mixed (by kernel_rfl)<|c_box Z Z (fun _ _ _ _ jj => O 0 Z Z Z Z K jj)<|C Z Z (fun jj => G Z K jj)<|C Z Z (fun jj => G Z K jj)<|C Z Z (fun jj => G Z K jj)<|C Z Z (fun jj => o_idxv Z Z (by omega) (elt7 (by simpa using hlt)) rfl K jj) ?_
    refine c_val Z Z (fun _ _ _ _ jj => o_loadv Z Z K jj)<|c_newG (ι := {e : Ev // GoodE (lastT 0 l) e}) (fun i => encE i.1) (fun _ => []) rfl rfl (fun X r Q ds k => o_callN Z Z EntC.out K (one42_spec (worldA w l) g1 g2 g3 (lastT 0 l) (by omega) (by omega) (x.getD ((i : Nat) : Int).toNat d7).y0 (x.getD ((i : Nat) : Int).toNat d7).y1 (x.getD ((i : Nat) : Int).toNat d7).y2 (x.getD ((i : Nat) : Int).toNat d7).y3 (x.getD ((i : Nat) : Int).toNat d7).y4 (x.getD ((i : Nat) : Int).toNat d7).y5 (x.getD ((i : Nat) : Int).toNat d7).y6 h0 h1 h2 h3 h4 h5 h6) fun v h' hr => by obtain ⟨⟨e, rfl, hge⟩, rfl⟩ := hr; exact k ⟨e, hge⟩) fun ee => c_alc Z fun x5 => ?_
    refine c_sto (.cons _ (.cons_cons _ (List.nil_sublist _))) rfl rfl (fun _ _ _ _ jj => o_store 0 Z Z Z Z Z Z jj)<|c_nil ?_
    obtain ⟨e, hge⟩ := ee
    dsimp only
    refine h_seq<|H<|O 1 Z Z Z Z K<|O 0 Z Z Z Z K<|o_callN Z Z EntC.out K (step42_spec (worldA w l) e (by omega) g1 g2 g3) fun v h' hr => ?_
    obtain ⟨rfl, u1, u2, u3, rfl⟩ := hr
    rw [stepRM_eq]
    refine G Z K<|o_extract Z Z K<|o_extract Z Z K<|o_alloc K fun x6 => ?_
    refine o_store 0 Z Z Z Z Z Z<|S Z K<|o_nil<|h_seq<|H<|G Z K<|o_cmp Z Z Z K<|o_nil<|h_cond Z (fun c8 => ?_) (fun c8 => ?_)
    ·
     refine h_seq<|H<|G Z K<|O 1 Z Z Z Z K<|o_buildSlicep Z (by rfl) (by rfl) (by rfl) (by rfl) K ?_
     refine o_appendv Z Z (Src.v _ _) (okB_one rfl) (by simp [chunk]) (by rw [chunk_length]; omega) (by simp [chunk_length]; try omega) K fun x9 c10 hc11 => ?_
     refine S Z K<|o_nil<|h_seq<|H<|O 1 Z Z Z Z K ?_
     refine o_store 3 Z Z Z Z Z Z<|o_nil<|H<|F Z Z K K<|O 2 Z Z Z Z K<|S Z K<|o_nil<|H<|G Z K<|o_add Z Z (by unfold in64; (try dsimp only); omega) K ?_
     refine S Z K<|o_nil ?_
     have h8 := c4
     simp only [decide_eq_true_eq] at h8
     have hok : (stepM (worldA w l) e).2 = 0 := by simpa using c8
     have hws := worldA_snoc w l e
     refine back rfl (.inr ⟨i + 1, x9, c10, l ++ [e], (l ++ [e]).map encV, _, u1, u2, u3, by omega, (by simp; omega), possL_snoc hp hge hok, rfl, (by simp [chunk_length, hn]), (by simp), (by simpa [chunk_length] using hc11)⟩) (by dsimp only; omega) (by dsimp only; rw [hws, List.map_append, show l.map encV = [] from by rw [hn]; rfl]; exact (.cons_cons _ (.cons _ (.cons _ (.cons_cons _ (.refl _)))))) (subT.cons Z (subT.cons Z (subT.cons Z (subT.cons (by simp only [lastT_snoc]; rfl) (subT.cons Z subT.nil)))))
    ·
     refine h_skip<|H<|G Z K<|o_add Z Z (by unfold in64; (try dsimp only); omega) K ?_
     refine S Z K<|o_nil ?_
     have h8 := c4
     simp only [decide_eq_true_eq] at h8
     refine back rfl (.inl ⟨i + 1, l, g1, g2, g3, by omega, by omega, hp, hn⟩) (by dsimp only; omega) (.cons _ (.cons _ (.cons_cons _ (.refl _)))) (subT.cons Z (subT.cons Z (subT.cons Z (subT.cons Z (subT.cons Z subT.nil)))))
   ·
    exact h_exit<|h_seq<|H<|G Z K<|S Z K<|o_nil<|h_ret<|ret1 rfl ⟨_, rfl, ⟨[], true, rfl, by simp, trivial⟩, rfl⟩
  ·
   refine h_seq<|h_seq<|H<|G Z K<|G Z K<|o_len Z K<|o_cmp Z Z Z K<|G Z K<|U Z Z (by simp <;> omega) K ?_
   refine U Z Z (by simp <;> omega) K ?_
   refine o_pickf Z (by simp <;> omega) rfl K ?_
   exact o_nil<|h_condf Z Z<|h_exit<|h_seq<|H<|G Z K<|S Z K<|o_nil<|h_ret<|ret1 rfl ⟨_, rfl, ⟨[], true, rfl, by simp, trivial⟩, rfl⟩
 ·
  dsimp only
  subst he; subst hln
  by_cases hlt : i < x.length
  ·
   obtain ⟨h0, h1, h2, h3, h4, h5, h6⟩ := hx i hlt
   have hlr := lastT_rng hp
   have hwv := worldA_valid hv hp
   have hwb := valid_len hwv.blk
   refine h_seq<|h_seq<|H<|G Z K<|G Z K<|o_len Z K<|o_cmp Z Z Z K<|G Z K<|W Z Z (by simp; omega) K ?_
   refine G Z K<|W Z Z (by simp; omega) K ?_
   refine o_cmp Z Z Z K<|o_pickt Z (by simp; omega) rfl K ?_
   refine o_nil<|h_cond Z (fun c15 => ?_) (fun c15 => ?_)
   ·
    refine h_skip<|h_seq<|h_block<|h_seq<|h_drawA _ (.cons _ (.cons_cons _ (List.nil_sublist _))) [(0, .box), (1, .flo), (2, .flo), (3, .flo), (4, .flo), (5, .val), (6, .new), (7, .alc (.box 41 [I 0, I 0, I 0, I 0, I 0, I 0, I 0, I 0])), (8, .sto)] (alc_all ⟨alc_ok rfl K rfl, trivial⟩) mixed (by kernel_rfl)<|c_box Z Z (fun _ _ _ _ jj => O 0 Z Z Z Z K jj)<|C Z Z (fun jj => G Z K jj)<|C Z Z (fun jj => G Z K jj)<|C Z Z (fun jj => G Z K jj)<|C Z Z (fun jj => o_idxv Z Z (by omega) (elt7 (by simpa using hlt)) rfl K jj) ?_
    refine c_val Z Z (fun _ _ _ _ jj => o_loadv Z Z K jj)<|c_newG (ι := {e : Ev // GoodE (lastT 0 l) e}) (fun i => encE i.1) (fun _ => []) rfl rfl (fun X r Q ds k => o_callN Z Z EntC.out K (one42_spec (worldA w l) g1 g2 g3 (lastT 0 l) (by omega) (by omega) (x.getD ((i : Nat) : Int).toNat d7).y0 (x.getD ((i : Nat) : Int).toNat d7).y1 (x.getD ((i : Nat) : Int).toNat d7).y2 (x.getD ((i : Nat) : Int).toNat d7).y3 (x.getD ((i : Nat) : Int).toNat d7).y4 (x.getD ((i : Nat) : Int).toNat d7).y5 (x.getD ((i : Nat) : Int).toNat d7).y6 h0 h1 h2 h3 h4 h5 h6) fun v h' hr => by obtain ⟨⟨e, rfl, hge⟩, rfl⟩ := hr; exact k ⟨e, hge⟩) fun ee => c_alc Z fun x16 => ?_
    refine c_sto (.cons _ (.cons _ (.cons_cons _ (List.nil_sublist _)))) rfl rfl (fun _ _ _ _ jj => o_store 0 Z Z Z Z Z Z jj)<|c_nil ?_
    obtain ⟨e, hge⟩ := ee
    dsimp only
    refine h_seq<|H<|O 2 Z Z Z Z K<|O 0 Z Z Z Z K<|o_callN Z Z EntC.out K (step42_spec (worldA w l) e (by omega) g1 g2 g3) fun v h' hr => ?_
    obtain ⟨rfl, u1, u2, u3, rfl⟩ := hr
    rw [stepRM_eq]
    refine G Z K<|o_extract Z Z K<|o_extract Z Z K<|o_alloc K fun x17 => ?_
    refine o_store 0 Z Z Z Z Z Z<|S Z K<|o_nil<|h_seq<|H<|G Z K<|o_cmp Z Z Z K<|o_nil<|h_cond Z (fun c19 => ?_) (fun c19 => ?_)
    ·
     refine h_seq<|H<|G Z K<|O 1 Z Z Z Z K<|o_buildSlicep Z (by rfl) (by rfl) (by rfl) (by rfl) K ?_
     refine o_append 2 Z Z Z (Src.v _ _) (okB_one rfl) (by simp) (by simp [chunk_length]; try omega) K fun x20 c21 hc22 => ?_
     refine S Z K<|o_nil<|h_seq<|H<|O 0 Z Z Z Z K ?_
     refine o_store 3 Z Z Z Z Z Z<|o_nil<|H<|F Z Z K K<|O 1 Z Z Z Z K<|S Z K<|o_nil<|H<|G Z K<|o_add Z Z (by unfold in64; (try dsimp only); omega) K ?_
     refine S Z K<|o_nil ?_
     have h8 := c15
     simp only [decide_eq_true_eq] at h8
     have hok : (stepM (worldA w l) e).2 = 0 := by simpa using c19
     have hws := worldA_snoc w l e
     refine back rfl (.inr ⟨i + 1, x20, c21, l ++ [e], (l ++ [e]).map encV, _, u1, u2, u3, by omega, (by simp; omega), possL_snoc hp hge hok, rfl, (by simp [chunk_length]), (by simp), (by simpa [chunk_length] using hc22)⟩) (by dsimp only; omega) (by dsimp only; rw [hws, List.map_append]; exact (.cons _ (.cons _ (.cons_cons _ (.cons_cons _ (.refl _)))))) (subT.cons Z (subT.cons Z (subT.cons Z (subT.cons (by simp only [lastT_snoc]; rfl) (subT.cons Z subT.nil)))))
    ·
     refine h_skip<|H<|G Z K<|o_add Z Z (by unfold in64; (try dsimp only); omega) K ?_
     refine S Z K<|o_nil ?_
     have h8 := c15
     simp only [decide_eq_true_eq] at h8
     refine back rfl (.inr ⟨i + 1, ob, c, l, _, _, g1, g2, g3, by omega, by omega, hp, rfl, rfl, hne, hc⟩) (by dsimp only; omega) (.cons _ (.cons _ (.cons_cons _ (.cons_cons _ (.refl _))))) (subT.cons Z (subT.cons Z (subT.cons Z (subT.cons Z (subT.cons Z subT.nil)))))
   ·
    exact h_exit<|h_seq<|H<|G Z K<|S Z K<|o_nil<|h_ret<|retF (.cons (resT rfl) .nil) (frz_os List.mem_cons_self (by simp) hc) ⟨_, rfl, ⟨l, false, rfl, by omega, hp⟩, rfl⟩
  ·
   refine h_seq<|h_seq<|H<|G Z K<|G Z K<|o_len Z K<|o_cmp Z Z Z K<|G Z K<|U Z Z (by simp <;> omega) K ?_
   refine U Z Z (by simp <;> omega) K ?_
   refine o_pickf Z (by simp <;> omega) rfl K ?_
   exact o_nil<|h_condf Z Z<|h_exit<|h_seq<|H<|G Z K<|S Z K<|o_nil<|h_ret<|retF (.cons (resT rfl) .nil) (frz_os List.mem_cons_self (by simp) hc) ⟨_, rfl, ⟨l, false, rfl, by omega, hp⟩, rfl⟩

end Go.Proofs.YtnoicbajhlpndaaGreat
