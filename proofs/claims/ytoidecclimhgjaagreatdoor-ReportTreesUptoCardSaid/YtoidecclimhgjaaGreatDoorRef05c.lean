/- dovetailref05.Rule, of a right grammar. -/
import Derived.Test.YtoidecclimhgjaaGreatDoorRef05b
import Derived.IntWalk
namespace Go.Proofs.YtoidecclimhgjaaGreatDoor
open Go.RowKit

set_option maxHeartbeats 4000000 in
set_option maxRecDepth 100000 in
theorem rrule_any (g : GV) (n : Nat) (hlt : n < g.R.length) (w : World) (B : Nat) (hg : g.In w B) (hB : B ≤ w.heap.size) (hok : g.err = .ok)
    (hl : -1000 ≤ g.R[n].left ∧ g.R[n].left ≤ 1000) (hr : ∀ s ∈ g.R[n].right, -9223372036854775808 ≤ s ∧ s < 9223372036854775808) (hlc : g.R[n].right.length ≤ 1048576) (hn : ∀ x ∈ g.T ++ g.N, x.size ≤ 1048576) :
    Calls Tryz.prog 22 #[g.val, .int .i64 n] w (RetV w (.tuple #[.string (ruleT g.T g.N g.R[n].left g.R[n].right), .int .i64 0])) := by
  obtain ⟨T, AT, cT, N, AN, cN, ax, R, AR, cR⟩ := g
  simp only at hlt hl hr hlc hn
  obtain ⟨r, hrn⟩ : ∃ r, R[n] = r := ⟨_, rfl⟩
  simp only [hrn] at hl hr hlc ⊢
  have bw : Below w.heap.size w (w.alloc (.cells #[.slice AT T.length cT, .slice AN N.length cN, .int .i64 ax, .slice AR R.length cR] 25)) := (Below.refl _ _).alloc (Nat.le_refl _) _
  have hc := check_ref _ _ w.heap.size ((hg.more hB).below bw) bw.size
  rw [hok] at hc
  have HG := Lib.hid (hg.more hB)
  have hrc := hg.r.cap
  have Hlen := Lib.hid (symsL_le T N hn r.right)
  have Hsz := Lib.hid fun s => symF_le (s := s) hn
  have Hn := Lib.hid hn
  have Hsy := Lib.hid fun (s : Int) hs w' hg' => rsymbol_any ⟨T, AT, cT, N, AN, cN, ax, R, AR, cR⟩ s hs w' w.heap.size hg'
  have Hss := Lib.hid fun w' hg' hl' => rsymbols_any ⟨T, AT, cT, N, AN, cN, ax, R, AR, cR⟩ r.right r.A r.c w' w.heap.size hg' hl' hlc hr
  simp only [GV.val] at *
  have H := Lib.hid hc
  clear hc hg hok hn hr
  go_enter Tryz.func22, Tryz.ntmps22
  go_wp2_with fail
  refine H.out.mono ?_
  rintro en w1 ⟨hb1, rfl⟩
  have hbw1 : Below w.heap.size w w1 := bw.trans (hb1.mono bw.size)
  have b0 : w1.cell? ⟨w.heap.size, 0, none⟩ = some (.slice AT T.length cT) := (hb1.cell (by simp)).trans (by go_simp)
  have b1 : w1.cell? ⟨w.heap.size, 1, none⟩ = some (.slice AN N.length cN) := (hb1.cell (by simp)).trans (by go_simp)
  have b2 : w1.cell? ⟨w.heap.size, 2, none⟩ = some (.int .i64 ax) := (hb1.cell (by simp)).trans (by go_simp)
  have b3 : w1.cell? ⟨w.heap.size, 3, none⟩ = some (.slice AR R.length cR) := (hb1.cell (by simp)).trans (by go_simp)
  obtain ⟨b, o, rfl, hbl, q0, q1⟩ := (HG.out.below hbw1).r.at_ hlt
  rw [hrn] at q0 q1
  have z1 : w.heap.size < w1.heap.size := by have := hb1.size; simp at this; omega
  have z2 : b < w1.heap.size := by omega
  have hn0 : (((Er.ok).kd : Int) != 0) = false := rfl
  have hnn : ¬ (n : Int) < 0 := by omega
  have hnr : (n : Int) < R.length := by omega
  have hsl := Hsz.out (-1 - r.left)
  have hlen := Hlen.out
  have HX := Lib.hid (And.intro b0 (And.intro b1 (And.intro b2 (And.intro b3 (And.intro q0 q1)))))
  have Hsym : Hid (∀ W, Below w1.heap.size w1 W → Calls Tryz.prog 42 #[.agg #[.slice AT T.length cT, .slice AN N.length cN, .int .i64 ax, .slice (some ⟨b, o, none⟩) R.length cR], .int .i64 (-1 - r.left)] W (RetV W (.string (symF T N (-1 - r.left))))) := Lib.hid fun W hW =>
    Hsy.out _ (by omega) W (HG.out.below (hbw1.trans (hW.mono hbw1.size))) (hbw1.trans (hW.mono hbw1.size)).size Hn.out
  have Hsyms : Hid (∀ W, Below w1.heap.size w1 W → Calls Tryz.prog 43 #[.agg #[.slice AT T.length cT, .slice AN N.length cN, .int .i64 ax, .slice (some ⟨b, o, none⟩) R.length cR], .slice r.A r.right.length r.c] W (RetV W (.string ⟨(symsL T N r.right).toArray⟩))) := Lib.hid fun W hW =>
    Hss.out W (HG.out.below (hbw1.trans (hW.mono hbw1.size))) ((HG.out.below (hbw1.trans (hW.mono hbw1.size))).r.each r (by rw [← hrn]; exact List.getElem_mem hlt)).1 (hbw1.trans (hW.mono hbw1.size)).size Hn.out
  have hZ : Below w1.heap.size w1 w1.drew := (Below.refl _ _).drew
  have hss : (⟨(symsL T N r.right).toArray⟩ : ByteArray).size = (symsL T N r.right).length := rfl
  have Hss2 := Lib.hid hss
  generalize hsv : symF T N (-1 - r.left) = sv at *
  have Hsv := Lib.hid hsv
  clear H Hss Hsy hss hsv hrn
  go_wp2_with fail
  have hwr : IntKind.i64.wrap (-1 - r.left) = -1 - r.left := IntWalk.i64_in _ (by omega)
  have ht2 : ¬ 9223372036854775807 < sv.size + 2 := by omega
  go_region_held3 (fun w' => w'.cell? ⟨w.heap.size, 0, none⟩ = some (.slice AT T.length cT) ∧ w'.cell? ⟨w.heap.size, 1, none⟩ = some (.slice AN N.length cN) ∧ w'.cell? ⟨w.heap.size, 2, none⟩ = some (.int .i64 ax) ∧ w'.cell? ⟨w.heap.size, 3, none⟩ = some (.slice (some ⟨b, o, none⟩) R.length cR) ∧ w'.cell? ⟨b, o + n * 2, none⟩ = some (.int .i64 r.left)) (go_keep)
    (first
      | (go_at_call 42; (with_reducible refine (Hsym.out _ hZ).mono ?_); rintro en w3 ⟨hb3, rfl⟩; have hZ' := hZ.trans (hb3.mono hZ.size); clear hZ; have hZ := hZ'; clear hZ'; have hs3 := hZ.size; have e0 := (hZ.cell (p := ⟨w.heap.size, 0, none⟩) z1).trans HX.out.1; have e1 := (hZ.cell (p := ⟨w.heap.size, 1, none⟩) z1).trans HX.out.2.1; have e2 := (hZ.cell (p := ⟨w.heap.size, 2, none⟩) z1).trans HX.out.2.2.1; have e3 := (hZ.cell (p := ⟨w.heap.size, 3, none⟩) z1).trans HX.out.2.2.2.1; have e4 := (hZ.cell (p := ⟨b, o + n * 2, none⟩) z2).trans HX.out.2.2.2.2.1; have e5 := (hZ.cell (p := ⟨b, o + n * 2 + 1, none⟩) z2).trans HX.out.2.2.2.2.2))
  obtain ⟨s8, hs8⟩ : ∃ s8, sv ++ (⟨#[32, 58]⟩ : ByteArray) = s8 := ⟨_, rfl⟩
  have hz8 : s8.size = sv.size + 2 := by rw [← hs8, ByteArray.size_append]; rfl
  have hz8' : s8.size ≤ 4194312 := by omega
  rw [hs8]
  have Hs8 := Lib.hid hs8
  have hbw3 := hbw1.trans (hZ.mono hbw1.size)
  have HX3 := Lib.hid (And.intro e0 (And.intro e1 (And.intro e2 (And.intro e3 e5))))
  have y0 : w.heap.size < w3.heap.size := Nat.lt_of_lt_of_le z1 hs3
  have y1 : b < w3.heap.size := Nat.lt_of_lt_of_le z2 hs3
  clear hs8 hz8 hwr ht2 b0 b1 b2 b3 q0 q1
  by_cases h0 : r.right = []
  · have HT : Hid (ruleT T N r.left r.right = s8) := Lib.hid (by rw [ruleT, if_pos h0, Hsv.out]; exact Hs8.out)
    have g0 : r.right.length = 0 := by simp [h0]
    clear h0
    go_wp2_with fail
    go_ret2
    exact ⟨hbw3, by rw [HT.out]; rfl⟩
  · have HT : Hid (ruleT T N r.left r.right = s8 ++ (⟨#[32]⟩ ++ ⟨(symsL T N r.right).toArray⟩)) := Lib.hid (by rw [ruleT, if_neg h0, Hsv.out]; rw [← Hs8.out])
    have g0 : 0 < r.right.length := List.length_pos_iff.2 h0
    have hlz : (symsL T N r.right).length ≤ 4398053851136 := by
      have h4 : 4194311 * r.right.length ≤ 4194311 * 1048576 := Nat.mul_le_mul_left _ hlc
      omega
    have hZ3 : Below w3.heap.size w3 w3.drew := (Below.refl _ _).drew
    clear h0
    go_wp2_with fail
    have ht1 : ¬ 9223372036854775807 < s8.size + 1 := by omega
    have ht3 : ¬ 9223372036854775807 < s8.size + 1 + (symsL T N r.right).length := by omega
    go_region_held3 (fun w' => w'.cell? ⟨w.heap.size, 0, none⟩ = some (.slice AT T.length cT) ∧ w'.cell? ⟨w.heap.size, 1, none⟩ = some (.slice AN N.length cN) ∧ w'.cell? ⟨w.heap.size, 2, none⟩ = some (.int .i64 ax) ∧ w'.cell? ⟨w.heap.size, 3, none⟩ = some (.slice (some ⟨b, o, none⟩) R.length cR) ∧ w'.cell? ⟨b, o + n * 2 + 1, none⟩ = some (.slice r.A r.right.length r.c)) (go_keep)
      (first
        | (go_at_call 43; (with_reducible refine (Hsyms.out _ (hZ.trans (hZ3.mono hZ.size))).mono ?_); rintro en w5 ⟨hb5, rfl⟩; have hZ' := hZ3.trans (hb5.mono hZ3.size); clear hZ3; have hZ3 := hZ'; clear hZ'; have e0 := (hZ3.cell (p := ⟨w.heap.size, 0, none⟩) y0).trans HX3.out.1; have e1 := (hZ3.cell (p := ⟨w.heap.size, 1, none⟩) y0).trans HX3.out.2.1; have e2 := (hZ3.cell (p := ⟨w.heap.size, 2, none⟩) y0).trans HX3.out.2.2.1; have e3 := (hZ3.cell (p := ⟨w.heap.size, 3, none⟩) y0).trans HX3.out.2.2.2.1; have e5 := (hZ3.cell (p := ⟨b, o + n * 2 + 1, none⟩) y1).trans HX3.out.2.2.2.2))
    go_wp2_with fail
    go_ret2
    exact ⟨hbw3.trans (hZ3.mono hbw3.size), by rw [HT.out, ← ByteArray.append_assoc]; rfl⟩
end Go.Proofs.YtoidecclimhgjaaGreatDoor
