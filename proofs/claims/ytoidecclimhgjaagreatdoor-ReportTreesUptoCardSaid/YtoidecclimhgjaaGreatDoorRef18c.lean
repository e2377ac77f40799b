/- dovetailref18.Tree. -/
import Derived.Test.YtoidecclimhgjaaGreatDoorRef18b
import Derived.Deep.DeepCutAuto
namespace Go.Proofs.YtoidecclimhgjaaGreatDoor
open Go.RowKit

theorem Tryz.info120 : (Tryz.prog.info? 120).map (fun i => (i.zero, i.size, i.bytes)) = some (some (.agg #[.int .i64 0, .int .i64 0]), 2, 16) := by kernel_rfl

set_option maxHeartbeats 8000000 in
set_option maxRecDepth 100000 in
theorem tree18 (G : GV) (w : World) (hG : G.In w w.heap.size) (Ar : Option Addr) (cr : Nat) (ru : List Int) (hr : Row w w.heap.size Ar (nums ru)) (hru : ru.length ≤ 131072) (h32 : ∀ r ∈ G.R, r.right.length ≤ 32) (hlf : ∀ r ∈ G.R, 0 ≤ r.left ∧ r.left ≤ 1000)
    (root from_ : Int) :
    Calls Tryz.prog 40 #[G.val, .slice Ar ru.length cr, .int .i64 root, .int .i64 from_] w (T18End w (t18F (G.R.map Rl.p) root from_ ru)) := by
  obtain ⟨T, AT, cT, N, AN, cN, ax, R, AR, cR⟩ := G
  simp only [GV.val] at *
  have hrc : R.length ≤ 140737488355328 := hG.r.cap
  have bw : Below w.heap.size w (w.alloc (.cells #[.slice AT T.length cT, .slice AN N.length cN, .int .i64 ax, .slice AR R.length cR] 25)) := (Below.refl _ _).alloc (Nat.le_refl _) _
  obtain ⟨W1, hW1⟩ : ∃ W1, W1 = w.alloc (.cells #[.slice AT T.length cT, .slice AN N.length cN, .int .i64 ax, .slice AR R.length cR] 25) := ⟨_, rfl⟩
  have hk0 : Blk W1 w.heap.size 25 #[.slice AT T.length cT, .slice AN N.length cN, .int .i64 ax, .slice AR R.length cR] := by rw [hW1]; exact Blk.new _ _ _
  have hs1 : W1.heap.size = w.heap.size + 1 := by rw [hW1]; simp
  rw [← hW1] at bw
  have HG := Lib.hid hG
  have HR := Lib.hid hr
  have H32 := Lib.hid h32
  have Hlf := Lib.hid hlf
  have HK := Lib.hid hk0
  have HS := Lib.hid hs1
  have HB := Lib.hid bw
  obtain ⟨jS, hS0, hS1, hS2, hS3⟩ := info_parts Tryz.info42
  obtain ⟨jI, hI0, hI1, hI2, hI3⟩ := info_parts Tryz.info3
  obtain ⟨jF, hF0, hF1, hF2, hF3⟩ := info_parts Tryz.info120
  clear hG hr h32 hlf hk0 hs1 bw
  go_enter Tryz.func40, Tryz.ntmps40
  go_wp2_with fail
  rw [← hW1]
  clear hW1
  go_loopw [12, 13, 14, 15, 16, 17] (fun vt vk vo vd vp i wr => ∃ (k : Nat) (c : Oc) (At Ak Ao : Option Addr) (ct ck co : Nat) (dp : Int), k ≤ ru.length ∧ i = .int .i64 k ∧ vd = .int .i64 dp ∧ vp = .int .i64 c.place ∧ vt = .slice At c.tree.length ct ∧ vk = .slice Ak c.toks.length ck ∧ vo = .slice Ao c.O.length co ∧
    Below (w.heap.size + 1) W1 wr ∧ TM wr (w.heap.size + 1) At Ak Ao ct ck co c ∧ OcOk R c ∧ Closed R c ∧ c.tree.length = k ∧ runF (R.map Rl.p) root from_ (ru.take k) = some c) (fun _ _ _ _ _ i _ => ru.length - (intOf i).toNat)
  case atStart => exact ⟨0, ⟨[], [], from_, []⟩, none, none, none, 0, 0, 0, 0, Nat.zero_le _, rfl, rfl, rfl, rfl, rfl, rfl, Below.refl _ _, ⟨World.ownsRow_nil _ _ _ _, World.ownsRow_nil _ _ _ _, World.ownsRow_nil _ _ _ _⟩, ⟨fun s h => by simp at h, fun s h => by simp at h, by simp [muO]⟩, fun f O h => by simp at h, rfl, rfl⟩
  case round =>
    obtain ⟨k, c, At, Ak, Ao, ct, ck, co, dp, hk, rfl, rfl, rfl, rfl, rfl, rfl, hb, hm, hok, hcl, hlen, hrun⟩ := hrel
    have Hok := Lib.hid hok
    have Hcl := Lib.hid hcl
    have Hlen := Lib.hid hlen
    have Hrun := Lib.hid hrun
    have hbw : Below w.heap.size w wr := HB.out.trans (hb.mono (by omega))
    have hz : w.heap.size + 1 ≤ wr.heap.size := by have := hb.size; rw [HS.out] at this; exact this
    have hroom := hok.room
    rw [hlen] at hroom
    clear hok hcl hlen hrun
    have g3 : wr.cell? ⟨w.heap.size, 3, none⟩ = some (.slice AR R.length cR) := (hb.cell (by simp)).trans (HK.out.cell 3)
    by_cases hlt : k < ru.length
    · obtain ⟨br, or, rfl, hbr, hcr⟩ := (HR.out.below hbw).at_ (k := k) (by simpa [nums] using hlt)
      have hck : wr.cell? ⟨br, or + k, none⟩ = some (.int .i64 ru[k]) := by rw [hcr _ (by simpa [nums] using hlt)]; simp [nums]
      obtain ⟨n, Hn⟩ : ∃ n, Hid (ru[k] = n) := ⟨_, Lib.hid rfl⟩
      rw [Hn.out] at hck
      clear hcr
      by_cases hn0 : n < 0
      · have Hf : Hid (t18F (R.map Rl.p) root from_ ru = none) := Lib.hid (runF_none hlt Hrun.out (by rw [Hn.out]; simp [pushF, hn0]))
        go_wp2_with fail
        refine bodyPost_ret (v := .tuple #[.slice none 0 0, .slice none 0 0, .int .i64 0, .bool false]) (by simp [results, Tryz.results40, go_sem]) rfl ⟨hbw, by rw [Hf.out]; exact ⟨_, _, _, rfl⟩⟩
      by_cases hn1 : (R.length : Int) ≤ n
      · have Hf : Hid (t18F (R.map Rl.p) root from_ ru = none) := Lib.hid (runF_none hlt Hrun.out (by rw [Hn.out]; simp only [pushF, hn0, if_false]; rw [List.getElem?_eq_none (by simp; omega)]))
        go_wp2_with fail
        refine bodyPost_ret (v := .tuple #[.slice none 0 0, .slice none 0 0, .int .i64 0, .bool false]) (by simp [results, Tryz.results40, go_sem]) rfl ⟨hbw, by rw [Hf.out]; exact ⟨_, _, _, rfl⟩⟩
      obtain ⟨m, rfl⟩ := Int.eq_ofNat_of_zero_le (Int.not_lt.1 hn0)
      have hmR : m < R.length := by omega
      clear hn0 hn1
      have hm0 : decide ((m : Int) < 0) = false := decide_eq_false (by omega)
      obtain ⟨bR, oR, rfl, hbl, q0, q1⟩ := (HG.out.below hbw).r.at_ hmR
      have hleft := Hlf.out _ (List.getElem_mem hmR)
      obtain ⟨tree, toks, place, O⟩ := c
      simp only at *
      have hOl : O.length ≤ 4325376 := by have := muO_ge O; omega
      have htk : toks.length ≤ 4325376 := by omega
      go_upto_if 43 with (fail)
      go_cut [] (fun wx => ∃ O1, pushF (R.map Rl.p) root ⟨tree, toks, place, O⟩ m = some (Oc.push ⟨tree, toks, place, O⟩ m O1) ∧ (∀ f ∈ O1, f.1 < tree.length ∧ f.2 ≤ (rt (R.map Rl.p) tree f.1).length) ∧ muO O1 ≤ muO O ∧ O1.length = O.length ∧
        Below (w.heap.size + 1) W1 wx ∧ TM wx (w.heap.size + 1) At Ak Ao ct ck co ⟨tree, toks, place, O1⟩)
      case first =>
        --[
        by_cases hk0 : k = 0
        · subst hk0
          have htr : tree = [] := List.eq_nil_of_length_eq_zero Hlen.out
          by_cases hroot : 0 ≤ root ∧ R[m].left ≠ root
          · have Hf : Hid (t18F (R.map Rl.p) root from_ ru = none) := Lib.hid (runF_none hlt Hrun.out (by rw [Hn.out, pushF_zero hmR htr, if_pos hroot]))
            obtain ⟨hr0, hr1⟩ := hroot
            have hr2 : (R[m].left != root) = true := by rw [bne_iff_ne]; exact hr1
            clear htr hr1
            go_wp2_with fail
            refine bodyPost_ret (v := .tuple #[.slice none 0 0, .slice none 0 0, .int .i64 0, .bool false]) (by simp [results, Tryz.results40, go_sem]) rfl ⟨hbw, by rw [Hf.out]; exact ⟨_, _, _, rfl⟩⟩
          · have Hp2 : Hid (pushF (R.map Rl.p) root ⟨tree, toks, place, O⟩ m = some (Oc.push ⟨tree, toks, place, O⟩ m O)) := Lib.hid (by rw [pushF_zero hmR htr, if_neg hroot])
            clear htr
            by_cases hr0 : 0 ≤ root
            · have hr2 : (R[m].left != root) = false := by rw [bne_eq_false_iff_eq]; exact Decidable.not_not.1 fun h => hroot ⟨hr0, h⟩
              clear hroot
              go_wp2_with fail
              go_meet
              exact ⟨O, Hp2.out, Hok.out.open_, Nat.le_refl _, rfl, hb, hm⟩
            · clear hroot
              go_wp2_with fail
              go_meet
              exact ⟨O, Hp2.out, Hok.out.open_, Nat.le_refl _, rfl, hb, hm⟩
        · have hkb : ((k : Int) == 0) = false := by rw [beq_eq_false_iff_ne]; omega
          have Htr : Hid (tree ≠ []) := Lib.hid (by intro h; have := Hlen.out; rw [h] at this; simp at this; omega)
          have Hk0 := Lib.hid hk0
          clear hk0
          rcases O with _ | ⟨⟨i, d⟩, O⟩
          · have Hf : Hid (t18F (R.map Rl.p) root from_ ru = none) := Lib.hid (runF_none hlt Hrun.out (by rw [Hn.out, pushF_nil hmR Htr.out rfl]))
            simp only [List.length_nil] at *
            go_wp2_with fail
            refine bodyPost_ret (v := .tuple #[.slice none 0 0, .slice none 0 0, .int .i64 0, .bool false]) (by simp [results, Tryz.results40, go_sem]) rfl ⟨hbw, by rw [Hf.out]; exact ⟨_, _, _, rfl⟩⟩
          · have ho : wr.ownsRow (w.heap.size + 1) 120 2 (.slice Ao (O.reverse.length + 1) co) (O.reverse.length + 1) (frCells (O.reverse ++ [(i, d)])) := by simpa using hm.o
            obtain ⟨g, rfl, hg1, hg2, z0, z1, zf⟩ := own_last ho
            have zf1 := zf (O.length * 2 + 1)
            simp only [List.length_reverse] at z0 z1
            obtain ⟨hi1, hi2⟩ := Hok.out.open_ (i, d) (by simp)
            dsimp only at hi1 hi2
            obtain ⟨x, hx1, hx2⟩ := Hcl.out (i, d) O rfl
            obtain ⟨gt, ot, rfl, hgt, y0, _, _⟩ := (own_row hm.t).steps hi1
            obtain ⟨hri0, hri1⟩ := Hok.out.rules _ (List.getElem_mem hi1)
            dsimp only at hri0 hri1 hx1
            obtain ⟨mi, hmi⟩ := Int.eq_ofNat_of_zero_le hri0
            have hmi' : mi < R.length := by omega
            have hrt := rt_eq (R := R) hi1 hmi' hmi
            rw [hmi] at y0
            obtain ⟨bR2, oR2, hA2, _, p0, p1⟩ := (HG.out.below hbw).r.at_ hmi'
            simp only [Option.some.injEq, Addr.mk.injEq, and_true] at hA2
            obtain ⟨rfl, rfl⟩ := hA2
            have hrow2 := ((HG.out.below hbw).r.each _ (List.getElem_mem hmi')).1
            rw [hrt] at hx1
            have hdl : d < R[mi].right.length := (List.getElem?_eq_some_iff.1 hx1).1
            have hd32 := H32.out _ (List.getElem_mem hmi')
            obtain ⟨b5, o5, hA5, hb5, hc5⟩ := hrow2.at_ (k := d) (by simpa [nums] using hdl)
            have hcx : wr.cell? ⟨b5, o5 + d, none⟩ = some (.int .i64 x) := by
              rw [hc5 _ (by simpa [nums] using hdl)]
              have := (List.getElem?_eq_some_iff.1 hx1).2
              simp [nums, this]
            rw [hA5] at p1
            have Hrt := Lib.hid hrt
            have Hx1 := Lib.hid hx1
            have Hhi2 := Lib.hid hi2
            clear hc5 hA5 hrow2 hrt hx1 hi2 hri0 hri1 hmi zf
            have hl1 : w.heap.size < wr.heap.size := by omega
            have hl2 : bR < wr.heap.size := by omega
            have hl5 : b5 < wr.heap.size := by omega
            simp only [List.length_cons] at *
            obtain ⟨rl, Hrl⟩ : ∃ rl, Hid (R[mi].right.length = rl) := ⟨_, Lib.hid rfl⟩
            obtain ⟨lf, Hlf2⟩ : ∃ lf, Hid (R[m].left = lf) := ⟨_, Lib.hid rfl⟩
            rw [Hrl.out] at p1 hdl hd32
            rw [Hlf2.out] at q0 hleft
            go_upto_region 18 with (fail)
            go_quiet (fail)
            by_cases hxl : x = -1 - lf
            · have Hp2 : Hid (pushF (R.map Rl.p) root ⟨tree, toks, place, (i, d) :: O⟩ m = some (Oc.push ⟨tree, toks, place, (i, d) :: O⟩ m ((i, d + 1) :: O))) := Lib.hid (by
                rw [pushF_cons hmR Htr.out rfl, if_pos (by rw [Hlf2.out, ← hxl]; simp only [Hrt.out]; exact Hx1.out)])
              have hxb : (x != -1 - lf) = false := by rw [bne_eq_false_iff_eq]; exact hxl
              clear hxl
              go_wp2_with fail
              go_meet
              obtain ⟨s1, s2⟩ := (own_drewN (ho.alloc (.cells #[.int .i64 i, .int .i64 d] 120)) nq).stored (O.reverse.length * 2 + 1) (.int .i64 ((d + 1 : Nat) : Int))
              rw [frCells_set] at s1
              simp only [List.length_reverse] at s1 s2
              refine ⟨(i, d + 1) :: O, Hp2.out, ?_, ?_, rfl, ((below_dN (hb.alloc hz _) nq).setCell hg1 _), own_kept (own_drewN (hm.t.alloc _) nq) (own_drewN (ho.alloc _) nq) (by decide) s2, own_kept (own_drewN (hm.k.alloc _) nq) (own_drewN (ho.alloc _) nq) (by decide) s2, ?_⟩
              · intro f hf
                rcases List.mem_cons.1 hf with rfl | hf
                · exact ⟨hi1, by rw [Hrt.out, Hrl.out]; exact hdl⟩
                · exact Hok.out.open_ f (List.mem_cons_of_mem _ hf)
              · rw [muO_cons, muO_cons]; omega
              · simpa using s1
            · have Hf : Hid (t18F (R.map Rl.p) root from_ ru = none) := Lib.hid (runF_none hlt Hrun.out (by
                rw [Hn.out, pushF_cons hmR Htr.out rfl, if_neg (by rw [Hlf2.out]; simp only [Hrt.out, Hx1.out]; intro h; exact hxl (Option.some.inj h))]))
              have hxb : (x != -1 - lf) = true := by rw [bne_iff_ne]; exact hxl
              clear hxl
              go_wp2_with fail
              refine bodyPost_ret (v := .tuple #[.slice none 0 0, .slice none 0 0, .int .i64 0, .bool false]) (by simp [results, Tryz.results40, go_sem]) rfl ⟨below_dN (hbw.alloc hbw.size _) _, by rw [Hf.out]; exact ⟨_, _, _, rfl⟩⟩
        --]
      case rest =>
        obtain ⟨O1, hp1, hO1, hmu, hOl1, hbx, hmx⟩ := hcut
        have Hok1 : Hid (OcOk R (Oc.push ⟨tree, toks, place, O⟩ m O1)) := Lib.hid (Hok.out.push_ ⟨by omega, by omega⟩ hO1 hmu)
        have Hrun1 : Hid (runF (R.map Rl.p) root from_ (ru.take (k + 1)) = some (close (R.map Rl.p) (Oc.push ⟨tree, toks, place, O⟩ m O1))) := Lib.hid (runF_some hlt Hrun.out (by rw [Hn.out]; exact hp1))
        have HOl1 := Lib.hid hOl1
        have hzx : w.heap.size + 1 ≤ wc.heap.size := by have := hbx.size; rw [HS.out] at this; exact this
        have htl : tree.length ≤ 131072 := by have := Hlen.out; omega
        have hl1 : O1.length ≤ 4325376 := by omega
        clear hp1 hO1 hmu hm g3 q0 q1 hck hOl1 hleft
        have ht := hmx.t; have hkk := hmx.k; have hoo := hmx.o
        simp only at ht hkk hoo
        rw [← HOl1.out]
        go_upto_region 23 with (first
          | (at_builtin; refine wpList_append_own _ rfl _ _ 26 rfl (w.heap.size + 1) 42 jS _ 3 24 Tryz.underlying26 hS0 hS1 hS2 hS3 rfl (by decide) (.slice At tree.length ct) tree.length _ rfl (ht.alloc _) ⟨wc.heap.size, 0, none⟩ 1 1 [.int .i64 m, .int .i64 place, .int .i64 0] rfl rfl (World.news_of_block (heap_alloc_new wc _)) (by intro u hu; simp at hu; rcases hu with rfl | rfl | rfl <;> rfl) (by unfold maxLen; omega) (by omega) (by simp; omega) ?_; intro v3 w3 ho3 hg3 _; obtain ⟨A3, c3, rfl⟩ := own_form ho3; have hs3 : wc.heap.size + 1 ≤ w3.heap.size := (by have := hg3.size; simpa using this); have hoo3 := own_kept (hoo.alloc _) (ht.alloc _) (by decide) hg3; have hkk3 := own_kept (hkk.alloc _) (ht.alloc _) (by decide) hg3)
          | (at_builtin; refine wpList_append_own _ rfl _ _ 118 rfl (w.heap.size + 1) 120 jF _ 2 16 Tryz.underlying118 hF0 hF1 hF2 hF3 rfl (by decide) (.slice Ao O1.length co) O1.length _ rfl (hoo3.alloc _) ⟨w3.heap.size, 0, none⟩ 1 1 [.int .i64 k, .int .i64 0] rfl rfl (World.news_of_block (heap_alloc_new w3 _)) (by intro u hu; simp at hu; rcases hu with rfl | rfl <;> rfl) (by unfold maxLen; omega) (by omega) (by simp; omega) ?_; intro v4 w4 ho4 hg4 _; obtain ⟨A4, c4, rfl⟩ := own_form ho4))
        have hc1 : Oc.push ⟨tree, toks, place, O⟩ m O1 = ⟨tree ++ [((m : Int), place, 0)], toks, place, (tree.length, 0) :: O1⟩ := rfl
        have hTM : TM w4 (w.heap.size + 1) A3 Ak A4 c3 ck c4 (Oc.push ⟨tree, toks, place, O⟩ m O1) := by
          rw [hc1]
          refine ⟨?_, own_kept (hkk3.alloc _) (hoo3.alloc _) (by decide) hg4, ?_⟩
          · have := own_kept (ho3.alloc _) (hoo3.alloc _) (by decide) hg4
            simpa [stepCells] using this
          · have := ho4
            rw [← Hlen.out] at this
            simpa [frCells] using this
        have hb4 : Below (w.heap.size + 1) W1 w4 := (((hbx.alloc hzx _).grown hg3 (by simp; omega) (fun j hj => (ht.lt j hj).1)).alloc (by omega) _).grown hg4 (by simp; omega) (fun j hj => (hoo3.lt j hj).1)
        have HTM := Lib.hid hTM
        have HB4 := Lib.hid hb4
        clear hc1 hTM hb4 ho4 hg4 ho3 hg3 hoo3 hkk3 ht hkk hoo hmx hbx
        go_cut [15] (fun vd wx => wx = w4 ∧ ∃ dp2, vd = .int .i64 dp2)
        case first =>
          go_wp2_with fail
          all_goals
            go_meet
            exact ⟨rfl, _, rfl⟩
        case rest =>
          obtain ⟨rfl, dp2, rfl⟩ := hcut
          generalize hc0 : Oc.push ⟨tree, toks, place, O⟩ m O1 = c1 at *
          have hl0 : c1.tree.length = tree.length + 1 := by rw [← hc0]; simp [Oc.push]
          have hl2 : c1.toks.length = toks.length ∧ c1.O.length = O1.length + 1 ∧ c1.place = place := by rw [← hc0]; simp [Oc.push]
          have HL0 := Lib.hid hl0
          have HL2 := Lib.hid hl2
          clear hc0 hl0 hl2
          go_wp2_with fail
          rw [← HL2.out.1, ← HL2.out.2.1, ← HL2.out.2.2, ← HL0.out]
          go_loopg [13, 14, 16] (muO c1.O) (fun mu vk vo vp wi => ∃ (c2 : Oc) (Ak2 Ao2 : Option Addr) (ck2 co2 : Nat), vk = .slice Ak2 c2.toks.length ck2 ∧ vo = .slice Ao2 c2.O.length co2 ∧ vp = .int .i64 c2.place ∧
            Below (w.heap.size + 1) W1 wi ∧ TM wi (w.heap.size + 1) A3 Ak2 Ao2 c3 ck2 co2 c2 ∧ OcOk R c2 ∧ c2.tree.length = c1.tree.length ∧ muO c2.O ≤ mu ∧ close (R.map Rl.p) c2 = close (R.map Rl.p) c1)
          case atStart => exact ⟨c1, Ak, A4, ck, c4, rfl, rfl, rfl, HB4.out, HTM.out, Hok1.out, rfl, Nat.le_refl _, rfl⟩
          case round =>
            obtain ⟨c2, Ak2, Ao2, ck2, co2, rfl, rfl, rfl, hbi, hmi2, hok2, hlen2, hmu2, hcl2⟩ := hrel
            have Hcl2 := Lib.hid hcl2
            have hroom2 := hok2.room
            have Hok2 := Lib.hid hok2
            rw [HL0.out] at hlen2
            have HLen2 := Lib.hid hlen2
            obtain ⟨tree2, toks2, place2, O2⟩ := c2
            simp only at *
            rw [hlen2] at hroom2
            have hO2l : O2.length ≤ 4325409 := by have := muO_ge O2; omega
            have htk2 : toks2.length ≤ 4325409 := by omega
            have hzi : w.heap.size + 1 ≤ wr.heap.size := by have := hbi.size; rw [HS.out] at this; exact this
            have hbwi : Below w.heap.size w wr := HB.out.trans (hbi.mono (by omega))
            have g3 : wr.cell? ⟨w.heap.size, 3, none⟩ = some (.slice (some ⟨bR, oR, none⟩) R.length cR) := (hbi.cell (by simp)).trans (HK.out.cell 3)
            clear hcl2 hok2 hlen2
            rcases O2 with _ | ⟨⟨i, d⟩, O2⟩
            · have Hfin : Hid (close (R.map Rl.p) c1 = ⟨tree2, toks2, place2, []⟩) := Lib.hid (by rw [← Hcl2.out]; exact close_nil rfl)
              simp only [List.length_nil] at *
              go_wp2_with fail
              go_roundw
              case rel =>
                exact ⟨k + 1, ⟨tree2, toks2, place2, []⟩, A3, Ak2, Ao2, c3, ck2, co2, dp2, by omega, by go_num, rfl, rfl, by rw [HL0.out, HLen2.out], rfl, rfl, hbi, hmi2, Hok2.out, fun f O h => by simp at h, by rw [HLen2.out, Hlen.out], by rw [Hrun1.out, Hfin.out]⟩
              case measure => simp [intOf]; omega
            · have ho : wr.ownsRow (w.heap.size + 1) 120 2 (.slice Ao2 (O2.reverse.length + 1) co2) (O2.reverse.length + 1) (frCells (O2.reverse ++ [(i, d)])) := by simpa using hmi2.o
              obtain ⟨g, rfl, hg1, hg2, z0, z1, zf⟩ := own_last ho
              have zf1 := zf (O2.length * 2 + 1)
              simp only [List.length_reverse] at z0 z1
              obtain ⟨hi1, hi2⟩ := Hok2.out.open_ (i, d) (by simp)
              dsimp only at hi1 hi2
              have hco : O2.length + 1 ≤ co2 := by have := own_cap ho; simpa using this
              have hT2 : wr.ownsRow (w.heap.size + 1) 42 3 (.slice A3 tree2.length c3) tree2.length (stepCells tree2) := hmi2.t
              have hi1c : i < c1.tree.length := by rw [HL0.out, ← HLen2.out]; exact hi1
              have hctl : c1.tree.length ≤ 131073 := by rw [HL0.out]; omega
              obtain ⟨gt, cpt, hvt, hgt0, hgt⟩ := hT2.form (by omega)
              simp only [Value.slice.injEq, true_and] at hvt
              obtain ⟨rfl, rfl⟩ := hvt
              have y0 : wr.cell? ⟨gt, i * 3, none⟩ = some (.int .i64 tree2[i].1) := by rw [hT2.cellAt _ (by omega)]; exact (stepCells_at tree2 i hi1).1
              obtain ⟨hst1, hst2⟩ := stepCells_to tree2 i hi1 place2
              have yt : wr.cell? ⟨gt, i * 3 + 2, none⟩ = some (.int .i64 tree2[i].2.2) := by rw [hT2.cellAt _ (by omega)]; exact hst2
              have yf := hT2.frozenAt (i * 3 + 2)
              have Hst1 := Lib.hid hst1
              obtain ⟨hri0, hri1⟩ := Hok2.out.rules _ (List.getElem_mem hi1)
              obtain ⟨mi, hmi⟩ := Int.eq_ofNat_of_zero_le hri0
              have hmi' : mi < R.length := by omega
              have hrt := rt_eq (R := R) hi1 hmi' hmi
              rw [hmi] at y0
              obtain ⟨bR2, oR2, hA2, _, p0, p1⟩ := (HG.out.below hbwi).r.at_ hmi'
              simp only [Option.some.injEq, Addr.mk.injEq, and_true] at hA2
              obtain ⟨rfl, rfl⟩ := hA2
              have hrow2 := ((HG.out.below hbwi).r.each _ (List.getElem_mem hmi')).1
              have hd32 := H32.out _ (List.getElem_mem hmi')
              rw [hrt] at hi2
              obtain ⟨rr, Hrr⟩ : ∃ rr, Hid (R[mi].right = rr) := ⟨_, Lib.hid rfl⟩
              obtain ⟨rA, HrA⟩ : ∃ rA, Hid (R[mi].A = rA) := ⟨_, Lib.hid rfl⟩
              obtain ⟨rc, Hrc⟩ : ∃ rc, Hid (R[mi].c = rc) := ⟨_, Lib.hid rfl⟩
              rw [Hrr.out] at p1 hrow2 hd32 hi2 hrt
              rw [HrA.out] at p1 hrow2
              rw [Hrc.out] at p1
              have Hrt := Lib.hid hrt
              have hlg : w.heap.size < wr.heap.size := by omega
              have hlR : bR < wr.heap.size := by omega
              clear hst1 hst2 hri0 hri1 hmi hrt zf
              simp only [List.length_cons] at *
              by_cases hdr : d = rr.length
              · -- whole: it is closed
                have hdb : ((d : Int) == rr.length) = true := by rw [beq_iff_eq]; omega
                have Hshut : Hid (close (R.map Rl.p) (Oc.shut ⟨tree2, toks2, place2, (i, d) :: O2⟩ i O2) = close (R.map Rl.p) c1) := Lib.hid (by
                  rw [← Hcl2.out]
                  refine (close_shut (fun r hr => by obtain ⟨q, hq, rfl⟩ := List.mem_map.1 hr; exact H32.out q hq) rfl ?_).symm
                  simp only [Hrt.out]
                  exact List.getElem?_eq_none (by omega))
                have Hokk : Hid (OcOk R (Oc.shut ⟨tree2, toks2, place2, (i, d) :: O2⟩ i O2)) := Lib.hid (Hok2.out.shut_ rfl)
                clear hdr
                go_wp2_with fail
                go_quiet (fail)
                go_wp2_with fail
                obtain ⟨s1, s2⟩ := (own_drewN (hT2.alloc (.cells #[.int .i64 i, .int .i64 d] 120)) nq).stored (i * 3 + 2) (.int .i64 place2)
                rw [Hst1.out] at s1
                go_roundg (muO O2)
                case measure => rw [muO_cons] at hmu2; omega
                case rel =>
                  refine ⟨Oc.shut ⟨tree2, toks2, place2, (i, d) :: O2⟩ i O2, Ak2, some ⟨g, 0, none⟩, ck2, co2, rfl, rfl, rfl, (below_dN (hbi.alloc hzi _) nq).setCell hgt0 _, ⟨?_, own_kept (own_drewN (hmi2.k.alloc _) nq) (own_drewN (hT2.alloc _) nq) (by decide) s2, ?_⟩, Hokk.out, by simp only [Oc.shut, List.length_modify]; rw [HLen2.out, HL0.out], Nat.le_refl _, Hshut.out⟩
                  · simpa [Oc.shut] using s1
                  · have := own_cut (size := 2) (ys := [.int .i64 i, .int .i64 d]) (by rw [← frCells_snoc O2.reverse (i, d)]; exact own_kept (own_drewN (ho.alloc _) nq) (own_drewN (hT2.alloc _) nq) (by decide) s2) rfl
                    simpa [Oc.shut] using this
              · have hdl : d < rr.length := by omega
                have hdb : ((d : Int) == rr.length) = false := by rw [beq_eq_false_iff_ne]; omega
                obtain ⟨b5, o5, rfl, hb5, hc5⟩ := hrow2.at_ (k := d) (by simpa [nums] using hdl)
                have hcx : wr.cell? ⟨b5, o5 + d, none⟩ = some (.int .i64 rr[d]) := by rw [hc5 _ (by simpa [nums] using hdl)]; simp [nums]
                obtain ⟨x, Hx⟩ : ∃ x, Hid (rr[d] = x) := ⟨_, Lib.hid rfl⟩
                rw [Hx.out] at hcx
                have Hrx : Hid ((rt (R.map Rl.p) tree2 i)[d]? = some x) := Lib.hid (by rw [Hrt.out, List.getElem?_eq_getElem hdl, Hx.out])
                have hl5 : b5 < wr.heap.size := by omega
                clear hc5 hdr hrow2
                by_cases hx0 : x < 0
                · have Hfin : Hid (close (R.map Rl.p) c1 = ⟨tree2, toks2, place2, (i, d) :: O2⟩) := Lib.hid (by rw [← Hcl2.out]; exact close_stop rfl Hrx.out hx0)
                  go_wp2_with fail
                  go_quiet (fail)
                  go_wp2_with fail
                  go_roundw
                  case rel =>
                    refine ⟨k + 1, ⟨tree2, toks2, place2, (i, d) :: O2⟩, some ⟨gt, 0, none⟩, Ak2, some ⟨g, 0, none⟩, c3, ck2, co2, dp2, by omega, by go_num, rfl, rfl, by rw [HL0.out, HLen2.out], rfl, rfl, below_dN (hbi.alloc hzi _) _, (hmi2.alloc _).drewN _, Hok2.out, fun f O h => ?_, by rw [HLen2.out, Hlen.out], by rw [Hrun1.out, Hfin.out]⟩
                    simp only [List.cons.injEq] at h
                    obtain ⟨rfl, rfl⟩ := h
                    exact ⟨x, Hrx.out, hx0⟩
                  case measure => simp [intOf]; omega
                · have Htok : Hid (close (R.map Rl.p) (Oc.tok ⟨tree2, toks2, place2, (i, d) :: O2⟩ x ((i, d + 1) :: O2)) = close (R.map Rl.p) c1) := Lib.hid (by
                    rw [← Hcl2.out]
                    exact (close_tok (fun r hr => by obtain ⟨q, hq, rfl⟩ := List.mem_map.1 hr; exact H32.out q hq) rfl Hrx.out hx0).symm)
                  have Hokk : Hid (OcOk R (Oc.tok ⟨tree2, toks2, place2, (i, d) :: O2⟩ x ((i, d + 1) :: O2))) := Lib.hid (Hok2.out.tok_ H32.out rfl Hrx.out)
                  go_wp2_with fail
                  go_quiet (fail)
                  have hk5 := own_drewN (hmi2.k.alloc (.cells #[.int .i64 i, .int .i64 d] 120)) nq
                  have ho5 := own_drewN (ho.alloc (.cells #[.int .i64 i, .int .i64 d] 120)) nq
                  have ht5 := own_drewN (hT2.alloc (.cells #[.int .i64 i, .int .i64 d] 120)) nq
                  have hb5' := below_dN (hbi.alloc hzi (.cells #[.int .i64 i, .int .i64 d] 120)) nq
                  go_wp2_with (at_builtin; refine wpList_append_own _ rfl _ _ 43 rfl (w.heap.size + 1) 3 jI _ 1 8 Tryz.underlying43 hI0 hI1 hI2 hI3 rfl (by decide) (.slice Ak2 toks2.length ck2) toks2.length _ rfl (hk5.alloc _) ⟨wr.heap.size + 1, 0, none⟩ 1 1 [.int .i64 x] rfl rfl (World.news_of_block (by simpa using heap_alloc_new (World.drewN (wr.alloc (.cells #[.int .i64 i, .int .i64 d] 120)) nq) (.cells #[.int .i64 x] 3))) (by intro u hu; simp at hu; subst hu; rfl) (by unfold maxLen; omega) (by omega) (by simp; omega) ?_; intro v6 w6 ho6 hg6 _; obtain ⟨A6, c6, rfl⟩ := own_form ho6; have oo6 := own_kept (ho5.alloc _) (hk5.alloc _) (by decide) hg6; have ot6 := own_kept (ht5.alloc _) (hk5.alloc _) (by decide) hg6; obtain ⟨g6, hA6, _, hg62, z60, z61, zf6⟩ := own_last oo6; simp only [Option.some.injEq, Addr.mk.injEq, and_true] at hA6; subst hA6; simp only [List.length_reverse] at z60 z61; have zf61 := zf6 (O2.length * 2 + 1); clear zf6)
                  obtain ⟨s1, s2⟩ := oo6.stored (O2.reverse.length * 2 + 1) (.int .i64 ((d + 1 : Nat) : Int))
                  rw [frCells_set] at s1
                  simp only [List.length_reverse] at s1 s2
                  have hb6 : Below (w.heap.size + 1) W1 w6 := (hb5'.alloc (by simp; omega) _).grown hg6 (by simp; omega) (fun j hj => (hk5.lt j hj).1)
                  go_roundg (muO ((i, d + 1) :: O2))
                  case measure => rw [muO_cons] at hmu2 ⊢; omega
                  case rel =>
                    refine ⟨Oc.tok ⟨tree2, toks2, place2, (i, d) :: O2⟩ x ((i, d + 1) :: O2), A6, some ⟨g, 0, none⟩, c6, co2, by simp [Oc.tok], rfl, rfl, hb6.setCell hg1 _, ⟨own_kept ot6 oo6 (by decide) s2, ?_, ?_⟩, Hokk.out, by simp only [Oc.tok]; rw [HLen2.out, HL0.out], Nat.le_refl _, Htok.out⟩
                    · have := own_kept ho6 oo6 (by decide) s2
                      simpa [Oc.tok, nums] using this
                    · simpa [Oc.tok] using s1
    · have Hall : Hid (runF (R.map Rl.p) root from_ ru = some c) := Lib.hid (by have := Hrun.out; rwa [List.take_of_length_le (by omega)] at this)
      have hkl : k = ru.length := by omega
      obtain ⟨tree, toks, place, O⟩ := c
      simp only at *
      by_cases h0 : ru.length = 0
      · have Hf : Hid (t18F (R.map Rl.p) root from_ ru = none) := Lib.hid (by
          rw [t18F, Hall.out, Option.bind_some, if_neg (by simp [List.eq_nil_of_length_eq_zero h0])])
        clear hkl
        go_wp2_with fail
        refine bodyPost_ret (v := .tuple #[.slice At tree.length ct, .slice Ak toks.length ck, .int .i64 dp, .bool false]) (by simp [results, Tryz.results40, go_sem]) rfl ⟨hbw, by rw [Hf.out]; exact ⟨_, _, _, rfl⟩⟩
      · have hp : 0 < ru.length := by omega
        have Hne : Hid (ru ≠ []) := Lib.hid (by intro h; rw [h] at hp; simp at hp)
        clear h0 hkl
        rcases O with _ | ⟨f, O⟩
        · have Hf : Hid (t18F (R.map Rl.p) root from_ ru = some ⟨tree, toks, place, []⟩) := Lib.hid (by rw [t18F, Hall.out, Option.bind_some, if_pos ⟨Hne.out, rfl⟩])
          simp only [List.length_nil] at *
          go_wp2_with fail
          refine bodyPost_ret (v := .tuple #[.slice At tree.length ct, .slice Ak toks.length ck, .int .i64 dp, .bool true]) (by simp [results, Tryz.results40, go_sem]) rfl ⟨hbw, by rw [Hf.out]; exact ⟨At, Ak, ct, ck, dp, rfl, own_row hm.t, own_row hm.k⟩⟩
        · have Hf : Hid (t18F (R.map Rl.p) root from_ ru = none) := Lib.hid (by rw [t18F, Hall.out, Option.bind_some, if_neg (by simp)])
          simp only [List.length_cons] at *
          have hb0 : ((O.length : Int) + 1 == 0) = false := by rw [beq_eq_false_iff_ne]; omega
          go_wp2_with fail
          refine bodyPost_ret (v := .tuple #[.slice At tree.length ct, .slice Ak toks.length ck, .int .i64 dp, .bool false]) (by simp [results, Tryz.results40, go_sem]) rfl ⟨hbw, by rw [Hf.out]; exact ⟨_, _, _, rfl⟩⟩
end Go.Proofs.YtoidecclimhgjaaGreatDoor
