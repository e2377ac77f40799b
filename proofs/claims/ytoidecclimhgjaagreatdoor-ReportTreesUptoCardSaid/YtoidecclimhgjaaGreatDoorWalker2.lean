/- (*deriv.walker).node: the way on which a step is laid. -/
import Derived.Test.YtoidecclimhgjaaGreatDoorWalker
namespace Go.Proofs.YtoidecclimhgjaaGreatDoor
open Go.RowKit

set_option maxHeartbeats 2000000 in
set_option maxRecDepth 100000 in
theorem node_good (e : Nat → Addr) (w0 : World) (G : GV) (hG : G.In w0 w0.heap.size) (Ar : Option Addr) (cr : Nat) (ru : List Int) (hr : Row w0 w0.heap.size Ar (nums ru)) (g : Nat) (hg : w0.heap.size ≤ g)
    (h32 : ∀ r ∈ G.R, r.right.length ≤ 32) (hsy : ∀ r ∈ G.R, ∀ x ∈ r.right, -4611686018427387904 ≤ x) (hru : ru.length ≤ 131072) (k : Nat)
    (ih : ∀ (s : St) (nt deep : Int) (any : Bool) (w : World), Below w0.heap.size w0 w → Wk w w0.heap.size g G Ar cr ru s → s.Fit ru.length → ru.length - s.at_ < k → deep + k ≤ 4611686018427387904 → 0 ≤ deep →
      Calls Tryz.prog 77 #[.pointer (some ⟨g, 0, none⟩), .int .i64 nt, .int .i64 deep, .bool any] w (NodeEnd e w0.heap.size g G Ar cr ru w (nodeF (G.R.map Rl.p) ru k s nt deep any)))
    (s : St) (nt deep : Int) (any : Bool) (w : World) (hb : Below w0.heap.size w0 w) (hw : Wk w w0.heap.size g G Ar cr ru s) (hf : s.Fit ru.length) (hk : ru.length - s.at_ < k + 1) (hd : deep + (k + 1 : Nat) ≤ 4611686018427387904) (hd0 : 0 ≤ deep)
    (m : Nat) (hm : m < G.R.length) (hs : ru[s.at_]? = some (m : Int)) (hany : ¬ (any = false ∧ G.R[m].left ≠ nt)) :
      Calls Tryz.prog 77 #[.pointer (some ⟨g, 0, none⟩), .int .i64 nt, .int .i64 deep, .bool any] w (NodeEnd e w0.heap.size g G Ar cr ru w (nodeF (G.R.map Rl.p) ru (k + 1) s nt deep any)) := by
    obtain ⟨At, ct, Ak, ck, hB, hT, hK⟩ := hw
    have IH := Lib.hid ih
    have hlen := Lib.hid hf.len
    have hle := hf.le
    clear ih
    have q0 := hB.cell 0; have q1 := hB.cell 1; have q2 := hB.cell 2; have q3 := hB.cell 3; have q4 := hB.cell 4; have q5 := hB.cell 5; have q6 := hB.cell 6; have q7 := hB.cell 7; have q8 := hB.cell 8; have q9 := hB.cell 9
    have f5 := hB.frozen 5; have f6 := hB.frozen 6; have f7 := hB.frozen 7; have f8 := hB.frozen 8; have f9 := hB.frozen 9
    simp only [List.getElem?_toArray, List.getElem?_cons_zero, List.getElem?_cons_succ] at q0 q1 q2 q3 q4 q5 q6 q7 q8 q9
    have hat : s.at_ < ru.length := by rw [List.getElem?_eq_some_iff] at hs; exact hs.1
    obtain ⟨br, or, rfl, hbr, hcr⟩ := (hr.below hb).at_ (k := s.at_) (by simpa [nums] using hat)
    have hcr2 : w.cell? ⟨br, or + s.at_, none⟩ = some (.int .i64 m) := by
      rw [hcr _ (by simpa [nums] using hat)]; rw [List.getElem?_eq_getElem hat, Option.some.injEq] at hs; simp [nums, hs]
    clear hcr
    have Hs := Lib.hid hs
    clear hs
    obtain ⟨bR, oR, hAR, hbR, hR0, hR1⟩ := (hG.r.below hb).at_ hm
    rw [hAR] at q3
    have HAR := Lib.hid hAR
    clear hAR
    go_enter Tryz.func77, Tryz.ntmps77
    go_wp2_with fail
    go_quiet (fail)
    go_wp2_with fail
    go_quiet (fail)
    go_upto_region 3 with (fail)
    go_cut [63] (fun v wx => ∃ q, wx = w.drewN q ∧ v = .bool false)
    case first =>
      cases any with
      | true =>
        go_wp2_with fail
        go_meet
        exact ⟨_, rfl, by simp; omega⟩
      | false =>
        have hle' : (G.R[m].left != nt) = false := by simp only [true_and, Decidable.not_not] at hany; simp [hany]
        clear hany
        go_wp2_with fail
        go_meet
        exact ⟨_, rfl, by simp; omega⟩
    case rest =>
      obtain ⟨q, rfl, rfl⟩ := hcut
      go_upto_region 7 with (fail)
      go_cut [] (fun wx => ∃ d : Int, d = max s.depth deep ∧ wx = ((w.drewN q).setCell ⟨g, 5, none⟩ (.int .i64 (↑s.at_ + 1))).setCell ⟨g, 9, none⟩ (.int .i64 d))
      case first =>
        go_wp2_with fail
        all_goals (go_meet; exact ⟨_, by omega, rfl⟩)
      case rest =>
        obtain ⟨d, hd', rfl⟩ := hcut
        have hB1 := ((hB.drewN q).set_ 5 (.int .i64 (↑s.at_ + 1))).set_ 9 (.int .i64 d)
        have hT1 := own_setFar (own_setFar (own_drewN hT q) (hB.drewN q) (by decide) 5 (.int .i64 (↑s.at_ + 1))) ((hB.drewN q).set_ 5 (.int .i64 (↑s.at_ + 1))) (by decide) 9 (.int .i64 d)
        have hK1 := own_setFar (own_setFar (own_drewN hK q) (hB.drewN q) (by decide) 5 (.int .i64 (↑s.at_ + 1))) ((hB.drewN q).set_ 5 (.int .i64 (↑s.at_ + 1))) (by decide) 9 (.int .i64 d)
        have hb1 : Below w0.heap.size w (((w.drewN q).setCell ⟨g, 5, none⟩ (.int .i64 (↑s.at_ + 1))).setCell ⟨g, 9, none⟩ (.int .i64 d)) := ((below_dN (Below.refl _ _) q).setCell hg _).setCell hg _
        simp only [List.setIfInBounds_toArray, List.set_cons_succ, List.set_cons_zero] at hB1
        obtain ⟨W, hW⟩ : ∃ W, W = ((w.drewN q).setCell ⟨g, 5, none⟩ (.int .i64 (↑s.at_ + 1))).setCell ⟨g, 9, none⟩ (.int .i64 d) := ⟨_, rfl⟩
        rw [← hW] at hB1 hT1 hK1 hb1 ⊢
        clear hW q0 q1 q2 q3 q4 q5 q6 q7 q8 q9 f5 f6 f7 f8 f9 hcr2 hR0 hR1
        have Hd := Lib.hid hd'
        clear hd'
        have q6 := hB1.cell 6; have q7 := hB1.cell 7; have f7 := hB1.frozen 7
        simp only [List.getElem?_toArray, List.getElem?_cons_zero, List.getElem?_cons_succ] at q6 q7
        have hgW : g < W.heap.size := hB1.lt
        go_upto_region 8 with (fail)
        go_cut [] (fun wx => Wk wx w0.heap.size g G (some ⟨br, or, none⟩) cr ru (s.open_ m deep) ∧ Below w0.heap.size w wx)
        case first =>
          --[
          obtain ⟨i0, hi0, hz0, hz1, hz2⟩ := info_parts Tryz.info42
          have hl1 : s.tree.length ≤ 131072 := by have := hlen.out; omega
          have hbW : w0.heap.size ≤ W.heap.size := Nat.le_trans hb.size hb1.size
          go_region_law (refine step_append_lies (w := _) rfl (.tmp 91) (.tmp 98) _ rfl w0.heap.size 42 i0 _ 3 24 Tryz.underlying26 hi0 hz0 hz1 hz2 rfl (by decide) (.slice At s.tree.length ct) s.tree.length (stepCells s.tree) rfl (own_drewN (hT1.alloc _) 1) ⟨W.heap.size, 0, none⟩ 1 1 [.int .i64 m, .int .i64 s.place, .int .i64 0] rfl rfl (World.news_of_block (heap_alloc_new W (.cells #[.int .i64 m, .int .i64 s.place, .int .i64 0] 42))) (by intro u hu; simp at hu; rcases hu with rfl | rfl | rfl <;> rfl) (by decide) (by simp only [maxLen]; omega) (by omega) (by simp; omega) (W.heap.size + 1) (by simp) ?_; intro g1 cp1 w1 ho1 hg1 hd1 hl1; have hBw : Blk w1 g 75 _ := Blk.grown (Blk.drewN (hB1.alloc _) 1) hg1 (fun h => own_ne hT1 hB1 (by decide) h.symm); have z7 : w1.cell? ⟨g, 7, none⟩ = some (.slice At s.tree.length ct) := hBw.cell 7; have zf7 := hBw.frozen 7)
          all_goals
            go_wp2_with fail
            go_meet
            refine ⟨⟨some ⟨g1, 0, none⟩, cp1, Ak, ck, ?_, ?_, ?_⟩, ?_⟩
            · have := hBw.set_ 7 (.slice (some ⟨g1, 0, none⟩) (s.tree.length + 1) cp1)
              simp only [List.setIfInBounds_toArray, List.set_cons_succ, List.set_cons_zero] at this
              simpa [St.open_, Hd.out] using this
            · simpa [St.open_, stepCells] using own_setFar ho1 hBw (by decide) 7 _
            · simpa [St.open_] using own_setFar ((own_drewN (hK1.alloc _) 1).kept hg1 (own_own hK1 hT1 (by decide))) hBw (by decide) 7 _
            · exact ((below_dN (hb1.alloc hbW _) 1).grown hg1 (by simp; omega) (fun k hk => (hT1.lt k hk).1)).setCell hg _
          --]
        case rest =>
          obtain ⟨hw1, hbx⟩ := hcut
          clear hb1 hB1 hT1 hK1 q6 q7 f7 hgW hB hT hK
          obtain ⟨At1, ct1, Ak1, ck1, hB1, hT1, hK1⟩ := hw1
          have q3 := hB1.cell 3
          simp only [List.getElem?_toArray, List.getElem?_cons_zero, List.getElem?_cons_succ] at q3
          rw [HAR.out] at q3
          obtain ⟨b2, o2, hA2, _, hR0, hR1⟩ := ((hG.r.below hb).below hbx).at_ hm
          rw [HAR.out] at hA2
          simp only [Option.some.injEq, Addr.mk.injEq, and_true] at hA2
          obtain ⟨rfl, rfl⟩ := hA2
          obtain ⟨hrow, hrl, _⟩ := (hG.r.below hb).each G.R[m] (List.getElem_mem hm)
          have hr32 := h32 G.R[m] (List.getElem_mem hm)
          have hrs := hsy G.R[m] (List.getElem_mem hm)
          have HF := Lib.hid (nodeF_go (k := k) (s := s) (nt := nt) (deep := deep) (any := any) (R := G.R.map Rl.p) (ru := ru) (m := m) (by simpa using hm) Hs.out (by simpa [Rl.p] using hany))
          simp only [List.getElem_map, Rl.p] at HF
          have H32 : Hid (∀ r ∈ G.R.map Rl.p, r.2.length ≤ 32) := by intro r hr; obtain ⟨q, hq, rfl⟩ := List.mem_map.1 hr; exact h32 q hq
          clear hany h32 hsy
          generalize G.R[m].right = right at *
          generalize G.R[m].A = A2 at *
          generalize G.R[m].c = c2 at *
          go_wp2_with fail
          go_loopw [112] (fun i wr => ∃ (j : Nat) (s1 : St), j ≤ right.length ∧ i = .int .i64 j ∧ Below w0.heap.size w wr ∧ Wk wr w0.heap.size g G (some ⟨br, or, none⟩) cr ru s1 ∧
            (right.take j).foldlM (kidF fun s x => nodeF (G.R.map Rl.p) ru k s x (deep + 1) false) (s.open_ m deep) = some s1 ∧ s.at_ < s1.at_ ∧ s1.tree.length = s1.at_ ∧ s1.at_ ≤ ru.length ∧ s1.toks.length + 32 * (s.at_ + 1) ≤ s.toks.length + j + 32 * s1.at_) (fun i _ => right.length - (intOf i).toNat)
          case atStart => exact ⟨0, s.open_ m deep, Nat.zero_le _, rfl, hbx, ⟨At1, ct1, Ak1, ck1, hB1, hT1, hK1⟩, rfl, by simp [St.open_], by simp [St.open_, hlen.out], by simp [St.open_]; omega, by simp [St.open_]⟩
          case round =>
            obtain ⟨j, s1, hj, rfl, hbr2, hw1, hfold, ha1, ha2, ha3, ha4⟩ := hrel
            have Hfold := Lib.hid hfold
            have Ha2 := Lib.hid ha2
            clear hfold ha2
            obtain ⟨At2, ct2, Ak2, ck2, hB2, hT2, hK2⟩ := hw1
            by_cases hlt : j < right.length
            · obtain ⟨b3, o3, rfl, hb3, hc3⟩ := (hrow.below hbr2).at_ (k := j) (by simpa [nums] using hlt)
              have hcx : wr.cell? ⟨b3, o3 + j, none⟩ = some (.int .i64 right[j]) := by rw [hc3 _ (by simpa [nums] using hlt)]; simp [nums]
              clear hc3
              have hx1 : -4611686018427387904 ≤ right[j] := hrs _ (List.getElem_mem hlt)
              obtain ⟨x, Hx⟩ : ∃ x, Hid (right[j] = x) := ⟨right[j], Lib.hid rfl⟩
              rw [Hx.out] at hcx hx1
              by_cases hx : x < 0
              · have hcall := IH.out s1 (-1 - x) (deep + 1) false wr (hb.trans hbr2) ⟨At2, ct2, Ak2, ck2, hB2, hT2, hK2⟩ ⟨Ha2.out, ha3, by have := hf.toks; omega⟩ (by omega) (by omega) (by omega)
                have Hcall := Lib.hid hcall
                clear hcall
                go_wp2_with fail
                refine Hcall.out.mono ?_
                rintro en w' ⟨hb', h⟩
                cases hr2 : nodeF (G.R.map Rl.p) ru k s1 (-1 - x) (deep + 1) false with
                | none =>
                  rw [hr2] at h
                  obtain rfl := h
                  have Hr2 := Lib.hid hr2
                  clear hr2
                  go_wp2_with fail
                  exact ⟨rfl, hbr2.trans hb', by rw [HF.out, fold_none hlt Hfold.out ((kid_neg Hx.out hx).trans Hr2.out)]; rfl⟩
                | some s2 =>
                  rw [hr2] at h
                  obtain ⟨rfl, hw2⟩ := h
                  have Hr2 := Lib.hid hr2
                  clear hr2
                  go_wp2_with fail
                  go_roundw
                  case rel =>
                    obtain ⟨p1, p2, p3, p4⟩ := nodeF_fit _ ru H32.out k s1 s2 _ _ _ Hr2.out Ha2.out
                    exact ⟨j + 1, s2, by omega, by go_num, hbr2.trans hb', hw2, fold_next hlt Hfold.out ((kid_neg Hx.out hx).trans Hr2.out), by omega, p2, p3, by omega⟩
                  case measure => simp [intOf]; omega
              · have z6 := hB2.cell 6; have z8 := hB2.cell 8; have y6 := hB2.frozen 6; have y8 := hB2.frozen 8
                simp only [List.getElem?_toArray, List.getElem?_cons_zero, List.getElem?_cons_succ] at z6 z8
                have hgr : g < wr.heap.size := hB2.lt
                have hbase : w0.heap.size ≤ wr.heap.size := Nat.le_trans hb.size hbr2.size
                have htk : s1.toks.length ≤ 4194304 := by have := hf.toks; omega
                obtain ⟨j0, hj0, hj1, hj2, hj3⟩ := info_parts Tryz.info3
                go_wp2_with (at_builtin; refine wpList_append_own _ rfl _ _ 43 rfl w0.heap.size 3 j0 _ 1 8 Tryz.underlying43 hj0 hj1 hj2 hj3 rfl (by decide) (.slice Ak2 s1.toks.length ck2) s1.toks.length (nums s1.toks) rfl (hK2.alloc _) ⟨wr.heap.size, 0, none⟩ 1 1 [.int .i64 x] rfl rfl (World.news_of_block (heap_alloc_new wr (.cells #[.int .i64 x] 3))) (by intro u hu; simp at hu; subst hu; rfl) (by simp only [maxLen]; omega) (by omega) (by simp; omega) ?_; intro v3 w3 ho3 hg3 _; obtain ⟨A3, c3, rfl⟩ := own_form ho3; have hB3 : Blk w3 g 75 _ := Blk.grown (hB2.alloc _) hg3 (fun h => own_ne hK2 hB2 (by decide) h.symm); have x8 : w3.cell? ⟨g, 8, none⟩ = some (.slice Ak2 s1.toks.length ck2) := hB3.cell 8; have v8 := hB3.frozen 8; have x6 : w3.cell? ⟨g, 6, none⟩ = some (.int .i64 s1.place) := hB3.cell 6; have v6 := hB3.frozen 6)
                go_roundw
                case rel =>
                  refine ⟨j + 1, s1.push x, by omega, by go_num, ?_, ⟨At2, ct2, A3, c3, ?_, ?_, ?_⟩, fold_next hlt Hfold.out (kid_pos Hx.out hx), by simpa [St.push] using ha1, by simpa [St.push] using Ha2.out, by simpa [St.push] using ha3, by simp [St.push]; omega⟩
                  · exact (((hbr2.alloc hbase _).grown hg3 (by simp; omega) (fun k hk => (hK2.lt k hk).1)).setCell hg _).setCell hg _
                  · have := (hB3.set_ 8 (.slice A3 (s1.toks.length + 1) c3)).set_ 6 (.int .i64 (wrap64 (s1.place + 1)))
                    simp only [List.setIfInBounds_toArray, List.set_cons_succ, List.set_cons_zero] at this
                    simpa [St.push] using this
                  · simpa [St.push] using own_setFar (own_setFar ((hT2.alloc _).kept hg3 (own_own hT2 hK2 (by decide))) hB3 (by decide) 8 _) (hB3.set_ 8 _) (by decide) 6 _
                  · simpa [St.push, nums] using own_setFar (own_setFar ho3 hB3 (by decide) 8 _) (hB3.set_ 8 _) (by decide) 6 _
                case measure => simp [intOf]; omega
            · have z6 := hB2.cell 6; have z7 := hB2.cell 7
              simp only [List.getElem?_toArray, List.getElem?_cons_zero, List.getElem?_cons_succ] at z6 z7
              obtain ⟨g3, cp3, hA3, hg3, hg3'⟩ := hT2.form (by have := Ha2.out; omega)
              simp only [Value.slice.injEq, true_and] at hA3
              obtain ⟨rfl, rfl⟩ := hA3
              have hmt : s.at_ < s1.tree.length := by have := Ha2.out; omega
              obtain ⟨hst1, hst2⟩ := stepCells_to s1.tree s.at_ hmt s1.place
              have Hst1 := Lib.hid hst1
              have zt : wr.cell? ⟨g3, s.at_ * 3 + 2, none⟩ = some (.int .i64 s1.tree[s.at_].2.2) := by rw [hT2.cellAt _ (by omega)]; exact hst2
              have yt := hT2.frozenAt (s.at_ * 3 + 2)
              clear hst1 hst2
              go_wp2_with fail
              go_region
              have hfull : right.foldlM (kidF fun s x => nodeF (G.R.map Rl.p) ru k s x (deep + 1) false) (s.open_ m deep) = some s1 := by
                have := Hfold.out; rwa [List.take_of_length_le (by omega)] at this
              have hgg : g ≠ g3 := fun h => own_ne hT2 hB2 (by decide) (by rw [h]; rfl)
              obtain ⟨hs1, hs2⟩ := hT2.stored (s.at_ * 3 + 2) (.int .i64 s1.place)
              rw [Hst1.out] at hs1
              go_end0
              refine ⟨(below_dN hbr2 1).setCell hg3 _, ?_⟩
              rw [HF.out, hfull]
              refine ⟨rfl, some ⟨g3, 0, none⟩, ct2, Ak2, ck2, ?_, ?_, ?_⟩
              · simp only [St.shut, List.length_modify]; exact (hB2.far (p := ⟨g3, s.at_ * 3 + 2, none⟩) hgg (.int .i64 s1.place)).drewN 1
              · simp only [St.shut, List.length_modify]; exact own_drewN hs1 1
              · exact own_drewN (hK2.kept hs2 (own_own hK2 hT2 (by decide))) 1

/-- A node, whatever the walker's state. -/
theorem node_any (e : Nat → Addr) (w0 : World) (hE : GE w0 e) (G : GV) (hG : G.In w0 w0.heap.size) (Ar : Option Addr) (cr : Nat) (ru : List Int) (hr : Row w0 w0.heap.size Ar (nums ru)) (g : Nat) (hg : w0.heap.size ≤ g)
    (h32 : ∀ r ∈ G.R, r.right.length ≤ 32) (hsy : ∀ r ∈ G.R, ∀ x ∈ r.right, -4611686018427387904 ≤ x) (hru : ru.length ≤ 131072) (k : Nat) :
    ∀ (s : St) (nt deep : Int) (any : Bool) (w : World), Below w0.heap.size w0 w → Wk w w0.heap.size g G Ar cr ru s → s.Fit ru.length → ru.length - s.at_ < k → deep + k ≤ 4611686018427387904 → 0 ≤ deep →
      Calls Tryz.prog 77 #[.pointer (some ⟨g, 0, none⟩), .int .i64 nt, .int .i64 deep, .bool any] w (NodeEnd e w0.heap.size g G Ar cr ru w (nodeF (G.R.map Rl.p) ru k s nt deep any)) := by
  induction k with
  | zero => intro s nt deep any w _ _ _ h; exact absurd h (by omega)
  | succ k ih =>
    intro s nt deep any w hb hw hf hk hd hd0
    by_cases h : ∃ m : Nat, ∃ hm : m < G.R.length, ru[s.at_]? = some (m : Int) ∧ ¬ (any = false ∧ G.R[m].left ≠ nt)
    · obtain ⟨m, hm, hs, hany⟩ := h
      exact node_good e w0 G hG Ar cr ru hr g hg h32 hsy hru k ih s nt deep any w hb hw hf hk hd hd0 m hm hs hany
    · exact node_bad e w0 hE G hG Ar cr ru hr g k s nt deep any w hb hw hf.le h
end Go.Proofs.YtoidecclimhgjaaGreatDoor
