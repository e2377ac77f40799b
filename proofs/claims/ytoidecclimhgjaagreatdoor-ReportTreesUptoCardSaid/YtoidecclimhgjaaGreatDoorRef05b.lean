/- dovetailref05.Symbols, Rule. -/
import Derived.Test.YtoidecclimhgjaaGreatDoorRef05
import Derived.Test.YtoidecclimhgjaaGreatDoorText6
import Derived.Test.YtoidecclimhgjaaGreatDoorRef03
import Derived.Test.YtoidecclimhgjaaGreatDoorKit4
import Derived.Deep.RegionHeld3
namespace Go.Proofs.YtoidecclimhgjaaGreatDoor
open Go.RowKit

/-- append of a string, at a step of a region that draws its order. -/
theorem step_append_str {P : Program} {w : World} {ops : Array Oper} {o : Oper} {a : Act} {K : Act → World → Prop} {Q : Exit → Act → World → Prop} {E : Prop} (hgd : o.guard = none) (sl x : Operand) (t u : TypeId)
    (ho : o.op = .call { callee := .builtin .append, args := #[sl, x], argTypes := #[t, u] })
    (base : Nat) (e : TypeId) (i : TypeInfo) (ht : P.underlying t = some (.slice e)) (hu : P.underlying u = some .string) (hi : P.info? e = some i) (hz : i.zero = some (.int .u8 0))
    (hsize : i.size = 1) (hby : i.bytes = 1)
    (v : Value) (n : Nat) (xs : List Value) (hs : a.eval sl = v) (hown : w.ownsRow base e 1 v n xs) (s : ByteArray) (hx : a.eval x = .string s)
    (h63 : n + s.size ≤ maxLen) (hbytes : n + s.size ≤ 140737488355328) (hbase : base ≤ w.heap.size)
    (h : ∀ v' w', w'.ownsRow base e 1 v' (n + s.size) (xs ++ Lib.strCells s) → w.grownBy w' v.ownBlock → K (a.put o.dst v') w') :
    if Region.wanted o (yielded ops a.tmps) = true then Oper.wp P o a w K Q else E := by
  have hw : Region.wanted o (yielded ops a.tmps) = true := by simp [Region.wanted, hgd]
  rw [if_pos hw]
  obtain ⟨v', w', hr, h2, h3, _⟩ := Lib.run_append_own_string (P := P) w base t u o.type e i ht hu hi hz hsize hby v n xs hown s h63 hbytes hbase
  unfold Oper.wp execOp
  simp only [ho, resolve, invoke, builtin, Sem.run_bind, Sem.run_pure, Result.andThen_ok, List.map_toArray, List.map_cons, List.map_nil, hs, hx, hr]
  exact h v' w' h2 h3

set_option maxHeartbeats 4000000 in
set_option maxRecDepth 100000 in
theorem rsymbols_any (g : GV) (l : List Int) (A : Option Addr) (c : Nat) (w : World) (B : Nat) (hg : g.In w B) (hl : Row w B A (nums l)) (hlc : l.length ≤ 1048576) (hr : ∀ s ∈ l, -9223372036854775808 ≤ s ∧ s < 9223372036854775808) (hB : B ≤ w.heap.size) (hn : ∀ n ∈ g.T ++ g.N, n.size ≤ 1048576) :
    Calls Tryz.prog 43 #[g.val, .slice A l.length c] w (RetV w (.string ⟨(symsL g.T g.N l).toArray⟩)) := by
  obtain ⟨i0, hi, hz0, hz1, hz2⟩ := info_parts Tryz.info5
  obtain ⟨T, AT, cT, N, AN, cN, ax, R, AR, cR⟩ := g
  have bw : Below w.heap.size w (w.alloc (.cells #[.slice AT T.length cT, .slice AN N.length cN, .int .i64 ax, .slice AR R.length cR] 25)) := (Below.refl _ _).alloc (Nat.le_refl _) _
  obtain ⟨W1, hW1⟩ : ∃ W1, W1 = w.alloc (.cells #[.slice AT T.length cT, .slice AN N.length cN, .int .i64 ax, .slice AR R.length cR] 25) := ⟨_, rfl⟩
  have hk0 : Blk W1 w.heap.size 25 #[.slice AT T.length cT, .slice AN N.length cN, .int .i64 ax, .slice AR R.length cR] := by rw [hW1]; exact Blk.new _ _ _
  have hs1 : W1.heap.size = w.heap.size + 1 := by rw [hW1]; simp
  rw [← hW1] at bw
  replace hW1 := hW1.symm
  have HG := Lib.hid (hg.more hB)
  have HL := Lib.hid (hl.more hB)
  have HK := Lib.hid hk0
  have HS := Lib.hid hs1
  have HB := Lib.hid bw
  have Hlen := Lib.hid (fun k => symsL_le T N hn (l.take k))
  have Hsz := Lib.hid fun s => symF_le (s := s) hn
  have Hsy := Lib.hid fun (s : Int) hs w' hg' => rsymbol_any ⟨T, AT, cT, N, AN, cN, ax, R, AR, cR⟩ s hs w' w.heap.size hg'
  have Hn := Lib.hid hn
  simp only [GV.val] at *
  clear hg hl hk0 hs1 bw hn
  go_enter Tryz.func43, Tryz.ntmps43
  go_wp2_with fail
  clear hW1
  go_loopw [5, 6] (fun v i wr => ∃ (k : Nat) (A' : Option Addr) (c' n : Nat), k ≤ l.length ∧ i = .int .i64 k ∧ v = .slice A' n c' ∧ Below (w.heap.size + 1) W1 wr ∧ wr.ownsRow (w.heap.size + 1) 5 1 (.slice A' n c') n (Lib.byteCells (symsL T N (l.take k)))) (fun _ i _ => l.length - (intOf i).toNat)
  case atStart => exact ⟨0, none, 0, 0, Nat.zero_le _, rfl, rfl, Below.refl _ _, World.ownsRow_nil _ _ _ _⟩
  case round =>
    obtain ⟨k, A', c', n, hk, rfl, rfl, hb, ho⟩ := hrel
    have hbw := HB.out.trans (hb.mono (by omega))
    have hz : w.heap.size + 1 ≤ wr.heap.size := by have := hb.size; rw [HS.out] at this; exact this
    have hn : n ≤ 4398053851136 := by
      have h1 := ho.1
      rw [byteCells_length] at h1
      have h2 := Hlen.out k
      have h3 : (l.take k).length ≤ 1048576 := by rw [List.length_take]; omega
      have h4 : 4194311 * (l.take k).length ≤ 4194311 * 1048576 := Nat.mul_le_mul_left _ h3
      omega
    by_cases hlt : k < l.length
    · obtain ⟨b, o, rfl, hbl, hc⟩ := (HL.out.below hbw).at_ (k := k) (by simpa [nums] using hlt)
      have hck : wr.cell? ⟨b, o + k, none⟩ = some (.int .i64 l[k]) := by rw [hc k (by simpa [nums] using hlt)]; simp [nums]
      have hrk := hr _ (List.getElem_mem hlt)
      have hl0 : w.heap.size < wr.heap.size := by omega
      have hl1 : b < wr.heap.size := by omega
      have q0 := (hb.cell (p := ⟨w.heap.size, 0, none⟩) (by simp)).trans (HK.out.cell 0)
      have q1 := (hb.cell (p := ⟨w.heap.size, 1, none⟩) (by simp)).trans (HK.out.cell 1)
      have q2 := (hb.cell (p := ⟨w.heap.size, 2, none⟩) (by simp)).trans (HK.out.cell 2)
      have q3 := (hb.cell (p := ⟨w.heap.size, 3, none⟩) (by simp)).trans (HK.out.cell 3)
      simp only [List.getElem?_toArray, List.getElem?_cons_zero, List.getElem?_cons_succ] at q0 q1 q2 q3
      obtain ⟨x, Hx⟩ : ∃ x, Hid (l[k] = x) := ⟨_, Lib.hid rfl⟩
      rw [Hx.out] at hck hrk
      clear hc
      have hxs := Hsz.out x
      have hpre : ∃ pre : List UInt8, symsL T N (l.take (k + 1)) = pre ++ (symF T N x).data.toList ∧ (k = 0 → symsL T N (l.take k) = pre) ∧ (k ≠ 0 → symsL T N (l.take k) ++ [32] = pre) := by
        by_cases hk0 : k = 0
        · subst hk0
          exact ⟨[], by rw [symsL_first T N l hlt, Hx.out]; rfl, fun _ => rfl, fun h => absurd rfl h⟩
        · exact ⟨_, by rw [symsL_next T N l k hk0 hlt, Hx.out], fun h => absurd h hk0, fun _ => rfl⟩
      obtain ⟨pre, hp1, hp2, hp3⟩ := hpre
      have Hp1 := Lib.hid hp1
      have Hp2 := Lib.hid hp2
      have Hp3 := Lib.hid hp3
      clear hp1 hp2 hp3
      go_upto_if 14 with (fail)
      go_cut [5] (fun v wx => ∃ (A2 : Option Addr) (c2 n2 : Nat), v = .slice A2 n2 c2 ∧ Below (w.heap.size + 1) W1 wx ∧ wx.ownsRow (w.heap.size + 1) 5 1 (.slice A2 n2 c2) n2 (Lib.byteCells pre) ∧ n2 ≤ 4398053851137)
      case first =>
        by_cases hk0 : k = 0
        · have Hk0 := Lib.hid hk0
          have hk1 : ¬ (0 : Int) < k := by omega
          clear hk0
          go_wp2_with fail
          go_meet
          exact ⟨A', c', n, rfl, hb, by rw [← Hp2.out Hk0.out]; exact ho, by omega⟩
        · have Hk0 := Lib.hid hk0
          have hk1 : (0 : Int) < k := by omega
          clear hk0
          go_wp2_with (at_builtin; refine wpList_append_own _ rfl _ _ 48 rfl (w.heap.size + 1) 5 i0 (.int .u8 0) 1 1 Tryz.underlying48 hi hz0 hz1 hz2 rfl (by decide) (.slice A' n c') n _ rfl (ho.alloc _) ⟨wr.heap.size, 0, none⟩ 1 1 [.int .u8 32] rfl rfl (World.news_of_block (heap_alloc_new wr _)) (by intro u hu; simp at hu; subst hu; rfl) (by unfold maxLen; omega) (by omega) (by simp; omega) ?_; intro v3 w3 ho3 hg3 _; obtain ⟨A3, c3, rfl⟩ := own_form ho3)
          go_meet
          exact ⟨A3, c3, n + 1, rfl, (hb.alloc hz _).grown hg3 (by simp; omega) (fun j hj => (ho.lt j hj).1), by rw [← Hp3.out Hk0.out, byteCells_append]; exact ho3, by omega⟩
      case rest =>
        obtain ⟨A2, c2, n2, rfl, hbx2, ho2, hn2⟩ := hcut
        have hbw2 := HB.out.trans (hbx2.mono (by omega))
        have hzc : w.heap.size + 1 ≤ wc.heap.size := by have := hbx2.size; rw [HS.out] at this; exact this
        have hck2 : wc.cell? ⟨b, o + k, none⟩ = some (.int .i64 x) := by
          obtain ⟨b', o', he, _, hc⟩ := (HL.out.below hbw2).at_ (k := k) (by simpa [nums] using hlt)
          simp only [Option.some.injEq, Addr.mk.injEq, and_true] at he
          obtain ⟨rfl, rfl⟩ := he
          rw [hc k (by simpa [nums] using hlt)]
          simp [nums, Hx.out]
        clear q0 q1 q2 q3 hck ho hb hbw hl0 hl1
        have q0 := (hbx2.cell (p := ⟨w.heap.size, 0, none⟩) (by simp)).trans (HK.out.cell 0)
        have q1 := (hbx2.cell (p := ⟨w.heap.size, 1, none⟩) (by simp)).trans (HK.out.cell 1)
        have q2 := (hbx2.cell (p := ⟨w.heap.size, 2, none⟩) (by simp)).trans (HK.out.cell 2)
        have q3 := (hbx2.cell (p := ⟨w.heap.size, 3, none⟩) (by simp)).trans (HK.out.cell 3)
        simp only [List.getElem?_toArray, List.getElem?_cons_zero, List.getElem?_cons_succ] at q0 q1 q2 q3
        have hl0 : w.heap.size < wc.heap.size := by omega
        have hl1 : b < wc.heap.size := by omega
        have HX := Lib.hid (And.intro q0 (And.intro q1 (And.intro q2 (And.intro q3 hck2))))
        have Hcall : Hid (∀ W, Below wc.heap.size wc W → Calls Tryz.prog 42 #[.agg #[.slice AT T.length cT, .slice AN N.length cN, .int .i64 ax, .slice AR R.length cR], .int .i64 x] W (RetV W (.string (symF T N x)))) := Lib.hid fun W hW =>
          Hsy.out x hrk W (HG.out.below (hbw2.trans (hW.mono hbw2.size))) (hbw2.trans (hW.mono hbw2.size)).size Hn.out
        have hZ : Below wc.heap.size wc wc.drew := (Below.refl _ _).drew
        have hoz := own_drewN ho2 1
        go_wp2_with fail
        go_region_held3 (fun w' => w'.cell? ⟨w.heap.size, 0, none⟩ = some (.slice AT T.length cT) ∧ w'.cell? ⟨w.heap.size, 1, none⟩ = some (.slice AN N.length cN) ∧ w'.cell? ⟨w.heap.size, 2, none⟩ = some (.int .i64 ax) ∧ w'.cell? ⟨w.heap.size, 3, none⟩ = some (.slice AR R.length cR) ∧ w'.cell? ⟨b, o + k, none⟩ = some (.int .i64 x)) (go_keep)
          (first
            | (go_at_call 42; (with_reducible refine (Hcall.out _ hZ).mono ?_); rintro en w3 ⟨hb3, rfl⟩; have ho3 := own_below hoz hb3 (Nat.le_refl _); have hZ' := hZ.trans (hb3.mono hZ.size); clear hZ; have hZ := hZ'; clear hZ'; have hs3 := hZ.size; have e0 := (hZ.cell (p := ⟨w.heap.size, 0, none⟩) hl0).trans HX.out.1; have e1 := (hZ.cell (p := ⟨w.heap.size, 1, none⟩) hl0).trans HX.out.2.1; have e2 := (hZ.cell (p := ⟨w.heap.size, 2, none⟩) hl0).trans HX.out.2.2.1; have e3 := (hZ.cell (p := ⟨w.heap.size, 3, none⟩) hl0).trans HX.out.2.2.2.1; have e4 := (hZ.cell (p := ⟨b, o + k, none⟩) hl1).trans HX.out.2.2.2.2)
            | (refine step_append_str rfl _ _ 48 9 rfl (w.heap.size + 1) 5 i0 Tryz.underlying48 Tryz.underlying9 hi hz0 hz1 hz2 (.slice A2 n2 c2) n2 _ rfl ho3 (symF T N x) rfl (by unfold maxLen; omega) (by omega) (by omega) ?_; intro v4 w4 ho4 hg4; obtain ⟨A4, c4, rfl⟩ := own_form ho4; have hb4 := (hbx2.trans (hZ.mono hzc)).grown hg4 (by omega) (fun j hj => (ho3.lt j hj).1)
               have f0 := (hb4.cell (p := ⟨w.heap.size, 0, none⟩) (by simp)).trans (HK.out.cell 0); have f1 := (hb4.cell (p := ⟨w.heap.size, 1, none⟩) (by simp)).trans (HK.out.cell 1); have f2 := (hb4.cell (p := ⟨w.heap.size, 2, none⟩) (by simp)).trans (HK.out.cell 2); have f3 := (hb4.cell (p := ⟨w.heap.size, 3, none⟩) (by simp)).trans (HK.out.cell 3)
               simp only [List.getElem?_toArray, List.getElem?_cons_zero, List.getElem?_cons_succ] at f0 f1 f2 f3
               have hbn : some b ≠ (Value.slice A2 n2 c2).ownBlock := fun h => absurd (ho3.lt b h.symm).1 (by omega); have f4 := (hg4.cell_far ⟨b, o + k, none⟩ (Nat.lt_of_lt_of_le hl1 hs3) hbn).trans e4))
        all_goals
          go_wp2_with fail
          go_roundw
          case rel => exact ⟨k + 1, A4, c4, n2 + (symF T N x).size, by omega, by go_num, rfl, hb4, by rw [Hp1.out, byteCells_append]; exact ho4⟩
          case measure => simp [intOf]; omega
    · rw [List.take_of_length_le (by omega)] at ho
      have hcv := conv_own ho rfl
      go_wp2_with fail
      go_ret
      exact ⟨hbw, rfl⟩
end Go.Proofs.YtoidecclimhgjaaGreatDoor
