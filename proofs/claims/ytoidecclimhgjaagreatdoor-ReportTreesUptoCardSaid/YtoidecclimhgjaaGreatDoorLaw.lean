/- ReportTrees: the law's walk. -/
import Derived.Test.YtoidecclimhgjaaGreatDoorRef29b
import Derived.Test.YtoidecclimhgjaaGreatDoorKind2
import Derived.Test.YtoidecclimhgjaaGreatDoorKit4
namespace Go.Proofs.YtoidecclimhgjaaGreatDoor
open Go.RowKit

theorem keptSteps_call {w : World} {B : Nat} {A1 A2 : Option Addr} {c1 c2 : Nat} {l : List (Int × Int × Int)} (h1 : Row w B A1 (stepCells l ++ [.int .i64 (-71), .int .i64 0, .int .i64 0])) (h2 : Row w B A2 (stepCells l)) (hl : l.length ≤ 140737488355328) (hc : l.length + 1 ≤ c1) :
    Calls Tryz.prog 10 #[.slice A1 l.length c1, .slice A2 l.length c2] w (RetV w (.bool true)) :=
  (keptSteps_same A1 A2 c1 c2 l w B h1 h2 hl hc).mono fun _ _ ⟨he, m, hw⟩ => ⟨hw ▸ below_dN (Below.refl _ _) m, he⟩

set_option maxHeartbeats 8000000 in
set_option maxRecDepth 100000 in
theorem law_any (e : Nat → Addr) (g : GV) (A : Option Addr) (c : Nat) (tree : List (Int × Int × Int)) (w : World) (hE : GE w e) (hty : ETy w) (htab : Lib.TabIs Tryz.prog w "internal/strconv.uint64pow10" .u64 Lib.pow10Tab)
    (hg : g.In w w.heap.size) (hr : Row w w.heap.size A (stepCells tree)) (hT : g.T.length ≤ 1048576) (hN : g.N.length ≤ 1048576) (hR : g.R.length ≤ 1048576) (hrr : ∀ r ∈ g.R, r.right.length ≤ 1048576) (htl : tree.length ≤ 1048576)
    (ht : ∀ s ∈ tree, (-9223372036854775808 ≤ s.2.1 ∧ s.2.1 ≤ 9223372036854775807) ∧ -9223372036854775808 ≤ s.2.2 ∧ s.2.2 ≤ 9223372036854775807) :
    Calls Tryz.prog 3 #[g.val, .slice A tree.length c] w (RetV w (.bool true)) := by
  have bw : Below w.heap.size w (w.alloc (.cells g.cells 25)) := (Below.refl _ _).alloc (Nat.le_refl _) _
  have H1 := Lib.hid (lentGrammar_any g _ w.heap.size (hg.below bw) bw.size (by omega) (by omega) (by omega) (fun r hr => by have := hrr r hr; omega))
  have h20 := hE.size
  go_enter Tryz.func3, Tryz.ntmps3
  go_wp2_with fail
  refine H1.out.mono ?_
  rintro en w1 ⟨hb1, g', rfl, hs, hl⟩
  have hbw1 := bw.trans (hb1.mono bw.size)
  have H2 := Lib.hid (lentSteps_any A c tree w1 _ ((hr.below hbw1).more hbw1.size) (by omega))
  clear H1
  go_wp2_with fail
  refine H2.out.mono ?_
  rintro en w2 ⟨hb2, A2, c2, rfl, ho2⟩
  have hbw2 := hbw1.trans (hb2.mono hbw1.size)
  have hrow2 := own_row ho2
  have hcap2 := own_cap ho2
  have hl2 := (hl.below hb2).more hb2.size
  have bw3 : Below w2.heap.size w2 (w2.alloc (.cells g'.cells 25)) := (Below.refl _ _).alloc (Nat.le_refl _) _
  have hbw3 := hbw2.trans (bw3.mono hbw2.size)
  have H3 := Lib.hid (tree_any e (w2.alloc (.cells g'.cells 25)) (hE.below hbw3) g' ((hl2.below bw3).in_.more bw3.size) A2 c2 tree ((hrow2.left.below bw3).more bw3.size) (by omega) (by omega) (Lib.tabBelow_of_tabIs htab _ hbw3) ht)
  have Hs := Lib.hid hs
  clear H2 hs
  go_wp2_with fail
  refine H3.out.mono ?_
  rintro en w4 ⟨hb4, h⟩
  have hsame := Hs.out
  rw [hsame.t, hsame.n, hsame.ax, hsame.r] at h
  have hbw4 := hbw3.trans (hb4.mono hbw3.size)
  have hl4 := ((hl2.below bw3).below (hb4.mono (by simp))).more (Nat.le_trans bw3.size hb4.size)
  have hrow4 : Row w4 w4.heap.size A2 _ := ((hrow2.below bw3).below (hb4.mono (by simp))).more (Nat.le_trans bw3.size hb4.size)
  have hk2 : Blk w4 w2.heap.size 25 g'.cells := (Blk.new w2 _ _).below hb4 (by simp)
  have hk1 : Blk w1 w.heap.size 25 g.cells := (Blk.new w _ _).below hb1 (by simp)
  have hlt1 : w.heap.size < w1.heap.size := hk1.lt
  have hk14 : Blk w4 w.heap.size 25 g.cells := hk1.below ((hb2.trans (bw3.mono hb2.size)).trans (hb4.mono (by have := hb2.size; simp; omega))) hlt1
  have H5 := Lib.hid fun W (hW : Below w.heap.size w W) => rtree_any g W ((hg.below hW).more hW.size) A c tree ((hr.below hW).more hW.size) (by omega) (fun t h => (ht t h).1.2)
  have Hk2 := Lib.hid hk2
  have Hk14 := Lib.hid hk14
  have l2 := hk2.lt
  have l1 := hk14.lt
  have x0 := hk2.cell 0; have x1 := hk2.cell 1; have x2 := hk2.cell 2; have x3 := hk2.cell 3
  have y0 := hk14.cell 0; have y1 := hk14.cell 1; have y2 := hk14.cell 2; have y3 := hk14.cell 3
  simp only [List.getElem?_toArray, List.getElem?_cons_zero, List.getElem?_cons_succ] at x0 x1 x2 x3 y0 y1 y2 y3
  have HKG : Hid (∀ W, Below w4.heap.size w4 W → Calls Tryz.prog 9 #[g'.val, g.val] W (RetV W (.bool true))) := Lib.hid fun W hW =>
    keptGrammar_same g' g Hs.out W W.heap.size ((hl4.below hW).more hW.size) ((hg.below (hbw4.trans (hW.mono hbw4.size))).more (hbw4.trans (hW.mono hbw4.size)).size) (Nat.le_refl _)
  have HKS : Hid (∀ W, Below w4.heap.size w4 W → Calls Tryz.prog 10 #[.slice A2 tree.length c2, .slice A tree.length c] W (RetV W (.bool true))) := Lib.hid fun W hW =>
    keptSteps_call (B := W.heap.size) ((hrow4.below hW).more hW.size) ((hr.below (hbw4.trans (hW.mono hbw4.size))).more (hbw4.trans (hW.mono hbw4.size)).size) (by omega) hcap2
  clear H3 hk2 hk14 hsame hk1 hl hl2 hrow2 ho2 hl4 hrow4
  have hE4 := hE.below hbw4
  have hty4 := hty.below hbw4 (by omega)
  cases htf : treeF g.T g.N g.ax (g.R.map Rl.p) tree with
  | ok s =>
    rw [htf] at h
    obtain rfl := h
    have H6 := H5.out w4 hbw4
    rw [htf] at H6
    simp only [t29V] at H6
    have H7 := Lib.hid H6
    have Has : Hid (∀ W, Below w4.heap.size w4 W → Calls Tryz.prog 8 #[.nilIface, .int .i64 0, .int .i64 (-1)] W (RetV W (.bool true))) := Lib.hid fun W hW => as_any e .nilIface .ok 0 (-1) W (hE4.below hW) rfl rfl (hty4.below hW (by have := hbw4.size; omega)) rfl (.inl (by omega))
    clear htf H6 hE hE4 hty4 hty
    go_wp2_with fail
    refine H7.out.mono ?_
    rintro en w5 ⟨hb5, rfl⟩
    go_wp2_with fail
    refine (Has.out _ hb5).mono ?_
    rintro en w6 ⟨hb6, rfl⟩
    have hb46 := hb5.trans (hb6.mono hb5.size)
    have u0 := (Hk2.out.below hb46 l2).cell 0; have u1 := (Hk2.out.below hb46 l2).cell 1; have u2 := (Hk2.out.below hb46 l2).cell 2; have u3 := (Hk2.out.below hb46 l2).cell 3
    have v0 := (Hk14.out.below hb46 l1).cell 0; have v1 := (Hk14.out.below hb46 l1).cell 1; have v2 := (Hk14.out.below hb46 l1).cell 2; have v3 := (Hk14.out.below hb46 l1).cell 3
    simp only [List.getElem?_toArray, List.getElem?_cons_zero, List.getElem?_cons_succ] at u0 u1 u2 u3 v0 v1 v2 v3
    go_wp2_with fail
    refine (HKG.out _ hb46).mono ?_
    rintro en w7 ⟨hb7, rfl⟩
    have hb47 := hb46.trans (hb7.mono hb46.size)
    go_wp2_with fail
    refine (HKS.out _ hb47).mono ?_
    rintro en w8 ⟨hb8, rfl⟩
    go_wp2_with fail
    go_ret
    exact ⟨hbw4.trans ((hb47.trans (hb8.mono hb47.size)).mono hbw4.size), rfl⟩
  | error er =>
    rw [htf] at h
    obtain ⟨v, rfl, hne, hv⟩ := h
    have hp : er.plain = true := by
      rcases treeF_fine htf with h | h
      · exact absurd h hne
      · exact h.2.2
    have H6 := H5.out w4 hbw4
    rw [htf] at H6
    simp only [t29V] at H6
    have H7 := Lib.hid H6
    have Has : Hid (∀ W, Below w4.heap.size w4 W → Calls Tryz.prog 8 #[v, .int .i64 er.kd, .int .i64 er.ru] W (RetV W (.bool true))) := Lib.hid fun W hW => as_any e v er er.kd er.ru W (hE4.below hW) (hv.below hW) hp (hty4.below hW (by have := hbw4.size; omega)) rfl (.inr rfl)
    clear htf H6 hE hE4 hty4 hty hp hne hv
    generalize er.kd = ek at *
    generalize er.ru = eru at *
    go_wp2_with fail
    refine H7.out.mono ?_
    rintro en w5 ⟨hb5, rfl⟩
    go_wp2_with fail
    refine (Has.out _ hb5).mono ?_
    rintro en w6 ⟨hb6, rfl⟩
    have hb46 := hb5.trans (hb6.mono hb5.size)
    have u0 := (Hk2.out.below hb46 l2).cell 0; have u1 := (Hk2.out.below hb46 l2).cell 1; have u2 := (Hk2.out.below hb46 l2).cell 2; have u3 := (Hk2.out.below hb46 l2).cell 3
    have v0 := (Hk14.out.below hb46 l1).cell 0; have v1 := (Hk14.out.below hb46 l1).cell 1; have v2 := (Hk14.out.below hb46 l1).cell 2; have v3 := (Hk14.out.below hb46 l1).cell 3
    simp only [List.getElem?_toArray, List.getElem?_cons_zero, List.getElem?_cons_succ] at u0 u1 u2 u3 v0 v1 v2 v3
    go_wp2_with fail
    refine (HKG.out _ hb46).mono ?_
    rintro en w7 ⟨hb7, rfl⟩
    have hb47 := hb46.trans (hb7.mono hb46.size)
    go_wp2_with fail
    refine (HKS.out _ hb47).mono ?_
    rintro en w8 ⟨hb8, rfl⟩
    go_wp2_with fail
    go_ret
    exact ⟨hbw4.trans ((hb47.trans (hb8.mono hb47.size)).mono hbw4.size), rfl⟩
end Go.Proofs.YtoidecclimhgjaaGreatDoor
