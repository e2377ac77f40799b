/- The kit's LentRules, LentGrammar. -/
import Derived.Test.YtoidecclimhgjaaGreatDoorKit3
namespace Go.Proofs.YtoidecclimhgjaaGreatDoor
open Go.RowKit

/-- Each rule's right side lies in a row of the call's own, with its mark. -/
def RightsOwn (w : World) (base : Nat) (R : List Rl) : Prop := ∀ r ∈ R, w.ownsRow base 3 1 (.slice r.A (r.right.length + 1) r.c) (r.right.length + 1) (nums r.right ++ [.int .i64 (-7171)]) ∧ r.right.length ≤ 1099511627776

theorem ruleCells_snoc (R : List Rl) (r : Rl) : ruleCells (R ++ [r]) = ruleCells R ++ [.int .i64 r.left, .slice r.A r.right.length r.c] := by simp [ruleCells]
theorem ruleCells_one (R : List Rl) : ∀ u ∈ ruleCells R, u.oneCell' = true := by
  intro u hu; simp only [ruleCells, List.mem_flatMap] at hu; obtain ⟨x, _, h⟩ := hu; simp at h; rcases h with rfl | rfl <;> rfl

def LentREnd (w : World) (R : List Rl) (en : Ending) (w' : World) : Prop :=
  Below w.heap.size w w' ∧ ∃ A c R', en = .returned (.slice A R.length c) ∧ R'.map Rl.p = R.map Rl.p ∧ w'.ownsRow w.heap.size 61 2 (.slice A (R.length + 1) c) (R.length + 1) (ruleCells R' ++ [.int .i64 (-7171), .slice none 0 0]) ∧ RightsOwn w' w.heap.size R'
theorem lentR_own {w : World} {base : Nat} {A : Option Addr} {c n : Nat} {R : List Rl} (h : w.ownsRow base 61 2 (.slice A (n + 1) c) (n + 1) (ruleCells R ++ [.int .i64 (-7171), .slice none 0 0])) (hr : RightsOwn w base R) (hn : n ≤ 1099511627776) : LentR w w.heap.size A c R := by
  have hlen : R.length = n := by have := h.1; simp only [List.length_append, ruleCells_length, List.length_cons, List.length_nil] at this; omega
  refine ⟨own_row h, by have := own_cap h; omega, by omega, fun r hr' => ?_⟩
  obtain ⟨h1, h2⟩ := hr r hr'
  exact ⟨own_row h1, own_cap h1, by omega⟩

theorem own_kept {w w' : World} {b1 b2 : Nat} {e1 e2 : TypeId} {s1 s2 n1 n2 : Nat} {v1 v2 : Value} {x1 x2 : List Value} (h1 : w.ownsRow b1 e1 s1 v1 n1 x1) (h2 : w.ownsRow b2 e2 s2 v2 n2 x2) (hne : e1 ≠ e2) (hg : w.grownBy w' v2.ownBlock) : w'.ownsRow b1 e1 s1 v1 n1 x1 :=
  h1.kept hg (own_own h1 h2 hne)
theorem own_below {w w' : World} {b B : Nat} {e : TypeId} {s n : Nat} {v : Value} {xs : List Value} (h : w.ownsRow b e s v n xs) (hb : Below B w w') (hB : w.heap.size ≤ B) : w'.ownsRow b e s v n xs :=
  h.kept (row := none) ⟨hb.os, hb.tape, hb.output, hb.size, fun k hk _ => hb.block k (by omega)⟩ (by cases v.ownBlock <;> simp)

set_option maxHeartbeats 2000000 in
set_option maxRecDepth 100000 in
theorem lentRules_any (A : Option Addr) (c : Nat) (R : List Rl) (w : World) (B : Nat) (h : RulesIn w B A c R) (hB : B ≤ w.heap.size) (hl : R.length ≤ 1099511627776) (hr : ∀ r ∈ R, r.right.length ≤ 1099511627776) :
    Calls Tryz.prog 12 #[.slice A R.length c] w (LentREnd w R) := by
  obtain ⟨i0, hi, hz0, hz1, hz2⟩ := info_parts Tryz.info61
  have H := Lib.hid h
  have Hr := Lib.hid hr
  clear h hr
  go_enter Tryz.func12, Tryz.ntmps12
  go_wp2_with fail
  go_loopw [3, 4] (fun v i wr => ∃ (k : Nat) (A' : Option Addr) (c' : Nat) (R' : List Rl), k ≤ R.length ∧ i = .int .i64 k ∧ v = .slice A' k c' ∧ Below w.heap.size w wr ∧ R'.map Rl.p = (R.take k).map Rl.p ∧ wr.ownsRow w.heap.size 61 2 (.slice A' k c') k (ruleCells R') ∧ RightsOwn wr w.heap.size R') (fun _ i _ => R.length - (intOf i).toNat)
  case atStart => exact ⟨0, none, 0, [], Nat.zero_le _, rfl, rfl, Below.refl _ _, rfl, World.ownsRow_nil _ _ _ _, fun r hr => by cases hr⟩
  case round =>
    obtain ⟨k, A', c', R', hk, rfl, rfl, hb, hmap, hown, hrt⟩ := hrel
    have Hmap := Lib.hid hmap
    have Hrt := Lib.hid hrt
    clear hmap hrt
    by_cases hlt : k < R.length
    · obtain ⟨bb, oo, rfl, hbb, x0, x1⟩ := ((H.out.more hB).below hb).at_ hlt
      have he := ((H.out.more hB).below hb).each _ (List.getElem_mem hlt)
      have hrl := Hr.out _ (List.getElem_mem hlt)
      have hL := Lib.hid (lentInts_any R[k].A R[k].c R[k].right wr w.heap.size he.1 hrl)
      have Hel : Hid (Rl.p R[k] = (R[k].left, R[k].right)) := Lib.hid rfl
      obtain ⟨el, Hel2⟩ : ∃ el, Hid (R[k] = el) := ⟨_, Lib.hid rfl⟩
      rw [Hel2.out] at x0 x1 hL hrl
      clear he
      go_wp2_with fail
      refine hL.out.mono ?_
      rintro en w2 ⟨hb2, A2, c2, rfl, ho2⟩
      have y0 := (hb2.cell (p := ⟨bb, oo + k * 2, none⟩) (by have := hb.size; show bb < _; omega)).trans x0
      have hs2 := hb2.size
      have hs1 := hb.size
      have hown2 := own_below hown hb2 (Nat.le_refl _)
      go_wp2_with (at_builtin; refine wpList_append_own _ rfl _ _ 23 rfl w.heap.size 61 i0 _ 2 32 Tryz.underlying23 hi hz0 hz1 hz2 rfl (by decide) (.slice A' k c') k _ rfl (hown2.alloc _) ⟨w2.heap.size, 0, none⟩ 1 1 [.int .i64 el.left, .slice A2 el.right.length c2] rfl rfl (World.news_of_block (heap_alloc_new w2 _)) (by intro u hu; simp at hu; rcases hu with rfl | rfl <;> rfl) (by unfold maxLen; omega) (by omega) (by simp; omega) ?_; intro v3 w3 ho3 hg3 _; obtain ⟨A3, c3, rfl⟩ := own_form ho3)
      go_roundw
      case rel =>
        refine ⟨k + 1, A3, c3, R' ++ [⟨el.left, el.right, A2, c2⟩], by omega, by go_num, rfl, ?_, ?_, ?_, ?_⟩
        · exact ((hb.trans (hb2.mono hb.size)).alloc (by omega) _).grown hg3 (by simp; omega) (fun j hj => (hown2.lt j hj).1)
        · rw [List.map_append, Hmap.out, List.take_succ_eq_append_getElem hlt, List.map_append, Hel2.out]; rfl
        · rw [ruleCells_snoc]; exact ho3
        · intro r hr
          rcases List.mem_append.1 hr with hr | hr
          · obtain ⟨h1, h2⟩ := Hrt.out r hr
            exact ⟨own_kept ((own_below h1 hb2 (Nat.le_refl _)).alloc _) (hown2.alloc _) (by decide) hg3, h2⟩
          · simp only [List.mem_singleton] at hr
            subst hr
            exact ⟨own_kept ((own_mono ho2 (by omega)).alloc _) (hown2.alloc _) (by decide) hg3, hrl⟩
      case measure => simp [intOf]; omega
    · obtain rfl : k = R.length := by omega
      have Hmap2 : Hid (R'.map Rl.p = R.map Rl.p) := Lib.hid (by have := Hmap.out; rwa [List.take_of_length_le (by omega)] at this)
      have hs1 := hb.size
      go_wp2_with (at_builtin; refine wpList_append_own _ rfl _ _ 23 rfl w.heap.size 61 i0 _ 2 32 Tryz.underlying23 hi hz0 hz1 hz2 rfl (by decide) (.slice A' R.length c') R.length _ rfl (hown.alloc _) ⟨wr.heap.size, 0, none⟩ 1 1 [.int .i64 (-7171), .slice none 0 0] rfl rfl (World.news_of_block (heap_alloc_new wr _)) (by intro u hu; simp at hu; rcases hu with rfl | rfl <;> rfl) (by unfold maxLen; omega) (by omega) (by simp; omega) ?_; intro v3 w3 ho3 hg3 _; obtain ⟨A3, c3, rfl⟩ := own_form ho3; have hcp := own_cap ho3)
      go_ret
      refine ⟨((hb.alloc (by omega) _).grown hg3 (by simp; omega) (fun j hj => (hown.lt j hj).1)), A3, c3, R', rfl, Hmap2.out, ho3, ?_⟩
      intro r hr
      obtain ⟨h1, h2⟩ := Hrt.out r hr
      exact ⟨own_kept (h1.alloc _) (hown.alloc _) (by decide) hg3, h2⟩

/-- A grammar was lent: the same one, in memory of its own. The result lies in a variable's cells. -/
def LentGEnd (w : World) (g : GV) (en : Ending) (w' : World) : Prop :=
  Below w.heap.size w w' ∧ ∃ g' : GV, en = .returned g'.val ∧ g'.Same g ∧ g'.Lent w' w'.heap.size

set_option maxHeartbeats 4000000 in
set_option maxRecDepth 100000 in
theorem lentGrammar_any (g : GV) (w : World) (B : Nat) (h : g.In w B) (hB : B ≤ w.heap.size) (hT : g.T.length ≤ 1099511627776) (hN : g.N.length ≤ 1099511627776) (hR : g.R.length ≤ 1099511627776) (hr : ∀ r ∈ g.R, r.right.length ≤ 1099511627776) :
    Calls Tryz.prog 4 #[g.val] w (LentGEnd w g) := by
  obtain ⟨T, AT, cT, N, AN, cN, ax, R, AR, cR⟩ := g
  simp only at hT hN hR hr
  simp only [GV.val]
  obtain ⟨W0, hW0⟩ : ∃ W0, W0 = (w.alloc (.cells #[.slice AT T.length cT, .slice AN N.length cN, .int .i64 ax, .slice AR R.length cR] 25)).alloc (.cells #[.slice none 0 0, .slice none 0 0, .int .i64 0, .slice none 0 0] 25) := ⟨_, rfl⟩
  have b0 : Below w.heap.size w W0 := by rw [hW0]; exact ((Below.refl _ _).alloc (Nat.le_refl _) _).alloc (by simp) _
  have s0 : W0.heap.size = w.heap.size + 2 := by rw [hW0]; simp
  have k0 : Blk W0 w.heap.size 25 #[.slice AT T.length cT, .slice AN N.length cN, .int .i64 ax, .slice AR R.length cR] := by rw [hW0]; exact (Blk.new _ _ _).alloc _
  have k1 : Blk W0 (w.heap.size + 1) 25 #[.slice none 0 0, .slice none 0 0, .int .i64 0, .slice none 0 0] := by
    rw [hW0]; have := Blk.new (w.alloc (.cells #[.slice AT T.length cT, .slice AN N.length cN, .int .i64 ax, .slice AR R.length cR] 25)) 25 #[.slice none 0 0, .slice none 0 0, .int .i64 0, .slice none 0 0]; simpa using this
  have hg := ((h.more hB).below b0).more b0.size
  have HT : Hid (∀ W, Below W0.heap.size W0 W → Calls Tryz.prog 11 #[.slice AT T.length cT] W (LentEnd W 9 1 T.length (strs T ++ [.string ⟨#[109, 97, 114, 107]⟩]))) := Lib.hid fun W hW => lentStrings_any AT cT T W _ (hg.t.below hW) hT
  have HN : Hid (∀ W, Below W0.heap.size W0 W → Calls Tryz.prog 11 #[.slice AN N.length cN] W (LentEnd W 9 1 N.length (strs N ++ [.string ⟨#[109, 97, 114, 107]⟩]))) := Lib.hid fun W hW => lentStrings_any AN cN N W _ (hg.n.below hW) hN
  have HR : Hid (∀ W, Below W0.heap.size W0 W → Calls Tryz.prog 12 #[.slice AR R.length cR] W (LentREnd W R)) := Lib.hid fun W hW => lentRules_any AR cR R W _ (hg.r.below hW) hW.size hR hr
  have HX := Lib.hid (And.intro k0 k1)
  have HB := Lib.hid b0
  have l0 : w.heap.size < W0.heap.size := by omega
  have l1 : w.heap.size + 1 < W0.heap.size := by omega
  have q0 := k0.cell 0; have q1 := k0.cell 1; have q2 := k0.cell 2; have q3 := k0.cell 3
  simp only [List.getElem?_toArray, List.getElem?_cons_zero, List.getElem?_cons_succ] at q0 q1 q2 q3
  have HS := Lib.hid s0
  clear h hg hr k0 k1 b0 s0
  have hZ : Below W0.heap.size W0 W0.drew := (Below.refl _ _).drew
  go_enter Tryz.func4, Tryz.ntmps4
  go_wp2_with fail
  rw [← hW0]
  clear hW0
  go_region_held3 (fun w' => w'.cell? ⟨w.heap.size, 0, none⟩ = some (.slice AT T.length cT) ∧ w'.cell? ⟨w.heap.size, 1, none⟩ = some (.slice AN N.length cN) ∧ w'.cell? ⟨w.heap.size, 2, none⟩ = some (.int .i64 ax) ∧ w'.cell? ⟨w.heap.size, 3, none⟩ = some (.slice AR R.length cR)) (go_keep)
    (first
      | (go_at_call 12; (with_reducible refine (HR.out _ hZ).mono ?_); rintro en w5 ⟨hb5, A5, c5, R5, rfl, hm5, ho5, hro5⟩; have rT2 := own_below rT1 hb5 (Nat.le_refl _); have rN1 := own_below rN hb5 (Nat.le_refl _); have k5 := hZ.size; have hZ' := hZ.trans (hb5.mono hZ.size); clear hZ; have hZ := hZ'; clear hZ'
         have e0 := (hZ.cell (p := ⟨w.heap.size, 0, none⟩) l0).trans q0; have e1 := (hZ.cell (p := ⟨w.heap.size, 1, none⟩) l0).trans q1; have e2 := (hZ.cell (p := ⟨w.heap.size, 2, none⟩) l0).trans q2; have e3 := (hZ.cell (p := ⟨w.heap.size, 3, none⟩) l0).trans q3
         have x0 := (HX.out.2.below hZ l1).cell 0; have x1 := (HX.out.2.below hZ l1).cell 1; have x2 := (HX.out.2.below hZ l1).cell 2; have x3 := (HX.out.2.below hZ l1).cell 3
         have y0 := (HX.out.2.below hZ l1).frozen 0; have y1 := (HX.out.2.below hZ l1).frozen 1; have y2 := (HX.out.2.below hZ l1).frozen 2; have y3 := (HX.out.2.below hZ l1).frozen 3; have l5 := (HX.out.2.below hZ l1).lt
         simp only [List.getElem?_toArray, List.getElem?_cons_zero, List.getElem?_cons_succ] at x0 x1 x2 x3)
      | (go_at_call 11; (with_reducible refine (HT.out _ hZ).mono ?_); rintro en w3 ⟨hb3, A3, c3, rfl, ho3⟩; have rT := ho3; have k3 := hZ.size; have hZ' := hZ.trans (hb3.mono hZ.size); clear hZ; have hZ := hZ'; clear hZ'
         have e0 := (hZ.cell (p := ⟨w.heap.size, 0, none⟩) l0).trans q0; have e1 := (hZ.cell (p := ⟨w.heap.size, 1, none⟩) l0).trans q1; have e2 := (hZ.cell (p := ⟨w.heap.size, 2, none⟩) l0).trans q2; have e3 := (hZ.cell (p := ⟨w.heap.size, 3, none⟩) l0).trans q3)
      | (go_at_call 11; (with_reducible refine (HN.out _ hZ).mono ?_); rintro en w4 ⟨hb4, A4, c4, rfl, ho4⟩; have rN := ho4; have rT1 := own_below rT hb4 (Nat.le_refl _); have k4 := hZ.size; have hZ' := hZ.trans (hb4.mono hZ.size); clear hZ; have hZ := hZ'; clear hZ'
         have e0 := (hZ.cell (p := ⟨w.heap.size, 0, none⟩) l0).trans q0; have e1 := (hZ.cell (p := ⟨w.heap.size, 1, none⟩) l0).trans q1; have e2 := (hZ.cell (p := ⟨w.heap.size, 2, none⟩) l0).trans q2; have e3 := (hZ.cell (p := ⟨w.heap.size, 3, none⟩) l0).trans q3))
  go_wp2_with fail
  have hs := HS.out
  simp only [World.size_drew] at k3 rT rT2
  have hX5 := (((((HX.out.2.below hZ l1).set_ 0 (.slice A3 T.length c3)).set_ 1 (.slice A4 N.length c4)).set_ 2 (.int .i64 ax)).set_ 3 (.slice A5 R.length c5))
  simp only [List.setIfInBounds_toArray, List.set_cons_succ, List.set_cons_zero] at hX5
  have hb6 := ((((HB.out.trans (hZ.mono HB.out.size)).setCell (p := ⟨w.heap.size + 1, 0, none⟩) (by simp) (.slice A3 T.length c3)).setCell (p := ⟨w.heap.size + 1, 1, none⟩) (by simp) (.slice A4 N.length c4)).setCell (p := ⟨w.heap.size + 1, 2, none⟩) (by simp) (.int .i64 ax)).setCell (p := ⟨w.heap.size + 1, 3, none⟩) (by simp) (.slice A5 R.length c5)
  have oT := ownsRow_setCell_below (ownsRow_setCell_below (ownsRow_setCell_below (ownsRow_setCell_below rT2 (a := ⟨w.heap.size + 1, 0, none⟩) (by simp; omega) (.slice A3 T.length c3)) (a := ⟨w.heap.size + 1, 1, none⟩) (by simp; omega) (.slice A4 N.length c4)) (a := ⟨w.heap.size + 1, 2, none⟩) (by simp; omega) (.int .i64 ax)) (a := ⟨w.heap.size + 1, 3, none⟩) (by simp; omega) (.slice A5 R.length c5)
  have oN := ownsRow_setCell_below (ownsRow_setCell_below (ownsRow_setCell_below (ownsRow_setCell_below rN1 (a := ⟨w.heap.size + 1, 0, none⟩) (by simp; omega) (.slice A3 T.length c3)) (a := ⟨w.heap.size + 1, 1, none⟩) (by simp; omega) (.slice A4 N.length c4)) (a := ⟨w.heap.size + 1, 2, none⟩) (by simp; omega) (.int .i64 ax)) (a := ⟨w.heap.size + 1, 3, none⟩) (by simp; omega) (.slice A5 R.length c5)
  have oR := ownsRow_setCell_below (ownsRow_setCell_below (ownsRow_setCell_below (ownsRow_setCell_below ho5 (a := ⟨w.heap.size + 1, 0, none⟩) (by simp; omega) (.slice A3 T.length c3)) (a := ⟨w.heap.size + 1, 1, none⟩) (by simp; omega) (.slice A4 N.length c4)) (a := ⟨w.heap.size + 1, 2, none⟩) (by simp; omega) (.int .i64 ax)) (a := ⟨w.heap.size + 1, 3, none⟩) (by simp; omega) (.slice A5 R.length c5)
  have oRR : RightsOwn _ _ _ := fun r hr => ⟨ownsRow_setCell_below (ownsRow_setCell_below (ownsRow_setCell_below (ownsRow_setCell_below (hro5 r hr).1 (a := ⟨w.heap.size + 1, 0, none⟩) (by simp; omega) (.slice A3 T.length c3)) (a := ⟨w.heap.size + 1, 1, none⟩) (by simp; omega) (.slice A4 N.length c4)) (a := ⟨w.heap.size + 1, 2, none⟩) (by simp; omega) (.int .i64 ax)) (a := ⟨w.heap.size + 1, 3, none⟩) (by simp; omega) (.slice A5 R.length c5), (hro5 r hr).2⟩
  obtain ⟨W6, hW6⟩ : ∃ W6, W6 = (((w5.setCell ⟨w.heap.size + 1, 0, none⟩ (.slice A3 T.length c3)).setCell ⟨w.heap.size + 1, 1, none⟩ (.slice A4 N.length c4)).setCell ⟨w.heap.size + 1, 2, none⟩ (.int .i64 ax)).setCell ⟨w.heap.size + 1, 3, none⟩ (.slice A5 R.length c5) := ⟨_, rfl⟩
  rw [← hW6] at hX5 hb6 oT oN oR oRR ⊢
  have z0 := hX5.cell 0; have z1 := hX5.cell 1; have z2 := hX5.cell 2; have z3 := hX5.cell 3
  simp only [List.getElem?_toArray, List.getElem?_cons_zero, List.getElem?_cons_succ] at z0 z1 z2 z3
  have cT := own_cap oT; have cN := own_cap oN
  have hlen5 : R5.length = R.length := by simpa using congrArg List.length hm5
  exact bodyPost_ret (v := .agg #[.slice A3 T.length c3, .slice A4 N.length c4, .int .i64 ax, .slice A5 R.length c5]) (by simp [results, Tryz.results4, go_sem, z0, z1, z2, z3]) rfl
    ⟨hb6, ⟨T, A3, c3, N, A4, c4, ax, R5, A5, c5⟩, by simp only [GV.val, hlen5], ⟨rfl, rfl, rfl, hm5⟩, own_row oT, own_row oN, lentR_own oR oRR hR, ⟨cT, by show T.length ≤ _; omega⟩, ⟨cN, by show N.length ≤ _; omega⟩⟩
end Go.Proofs.YtoidecclimhgjaaGreatDoor
