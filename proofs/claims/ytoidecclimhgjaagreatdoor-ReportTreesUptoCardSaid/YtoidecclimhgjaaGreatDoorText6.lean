/- show.Rule, of a right grammar. -/
import Derived.Test.YtoidecclimhgjaaGreatDoorText5
namespace Go.Proofs.YtoidecclimhgjaaGreatDoor
open Go.RowKit

/-- A rule's text. -/
def ruleT (T N : List ByteArray) (l : Int) (r : List Int) : ByteArray :=
  if r = [] then symF T N (-1 - l) ++ ⟨#[32, 58]⟩ else symF T N (-1 - l) ++ ⟨#[32, 58]⟩ ++ (⟨#[32]⟩ ++ ⟨(symsL T N r).toArray⟩)

set_option maxHeartbeats 4000000 in
set_option maxRecDepth 100000 in
theorem rule_text (g : GV) (n : Nat) (hlt : n < g.R.length) (e : Nat → Addr) (w : World) (B : Nat) (hE : GE w e) (hg : g.In w B) (hB : B ≤ w.heap.size) (hok : g.err = .ok)
    (hl : -1000 ≤ g.R[n].left ∧ g.R[n].left ≤ 1000) (hr : ∀ s ∈ g.R[n].right, -9223372036854775808 ≤ s ∧ s < 9223372036854775808) (hlc : g.R[n].right.length ≤ 1048576) (hn : ∀ x ∈ g.T ++ g.N, x.size ≤ 1048576) :
    Calls Tryz.prog 16 #[g.val, .int .i64 n] w (RetV w (.tuple #[.string (ruleT g.T g.N g.R[n].left g.R[n].right), .nilIface])) := by
  obtain ⟨T, AT, cT, N, AN, cN, ax, R, AR, cR⟩ := g
  simp only at hlt hl hr hlc hn
  obtain ⟨r, hrn⟩ : ∃ r, R[n] = r := ⟨_, rfl⟩
  simp only [hrn] at hl hr hlc ⊢
  have bw : Below w.heap.size w (w.alloc (.cells #[.slice AT T.length cT, .slice AN N.length cN, .int .i64 ax, .slice AR R.length cR] 25)) := (Below.refl _ _).alloc (Nat.le_refl _) _
  have hc := check_any _ e _ w.heap.size (hE.below bw) ((hg.more hB).below bw) bw.size
  rw [hok] at hc
  have HG := Lib.hid (hg.more hB)
  have Hlen := Lib.hid (symsL_le T N hn r.right)
  have Hsz := Lib.hid fun s => symF_le (s := s) hn
  have Hsy := Lib.hid fun (s : Int) hs w' B' hg' hB' => symbol_any ⟨T, AT, cT, N, AN, cN, ax, R, AR, cR⟩ s hs w' B' hg' hB' (fun n h => Nat.le_trans (hn n h) (by omega))
  have Hss := Lib.hid fun w' hg' hl' h0 hB' => symbols_any ⟨T, AT, cT, N, AN, cN, ax, R, AR, cR⟩ r.right r.A r.c w' w.heap.size hg' hl' hlc h0 hr hB' hn
  have HR := Lib.hid hr
  simp only [GV.val] at *
  have H := Lib.hid hc
  clear hc hg hok hn hr
  go_enter Tryz.func16, Tryz.ntmps16
  go_wp2_with fail
  refine H.out.mono ?_
  rintro en w1 ⟨hb1, v, rfl, hv⟩
  have hv' : v = .nilIface := hv
  subst hv'
  have hbw1 : Below w.heap.size w w1 := bw.trans (hb1.mono bw.size)
  have b0 : w1.cell? ⟨w.heap.size, 0, none⟩ = some (.slice AT T.length cT) := (hb1.cell (by simp)).trans (by go_simp)
  have b1 : w1.cell? ⟨w.heap.size, 1, none⟩ = some (.slice AN N.length cN) := (hb1.cell (by simp)).trans (by go_simp)
  have b2 : w1.cell? ⟨w.heap.size, 2, none⟩ = some (.int .i64 ax) := (hb1.cell (by simp)).trans (by go_simp)
  have b3 : w1.cell? ⟨w.heap.size, 3, none⟩ = some (.slice AR R.length cR) := (hb1.cell (by simp)).trans (by go_simp)
  obtain ⟨b, o, rfl, hbl, q0, q1⟩ := (HG.out.below hbw1).r.at_ hlt
  rw [hrn] at q0 q1
  have z1 : w.heap.size < w1.heap.size := by have := hb1.size; simp at this; omega
  clear H
  go_wp2_with fail
  have bw2 : Below w1.heap.size w1 (w1.alloc (.cells #[.int .i64 r.left, .slice r.A r.right.length r.c] 61)) := (Below.refl _ _).alloc (Nat.le_refl _) _
  have hbw2 : Below w.heap.size w (w1.alloc (.cells #[.int .i64 r.left, .slice r.A r.right.length r.c] 61)) := hbw1.trans (bw2.mono hbw1.size)
  refine (Hsy.out (-1 - r.left) (by omega) _ _ (HG.out.below hbw2) hbw2.size).mono ?_
  rintro en w3 ⟨hb3, rfl⟩
  have hb13 := bw2.trans (hb3.mono bw2.size)
  have hbw3 : Below w.heap.size w w3 := hbw1.trans (hb13.mono hbw1.size)
  have z3 : w1.heap.size < w3.heap.size := by have := hb3.size; simp at this; omega
  have r0 : w3.cell? ⟨w1.heap.size, 0, none⟩ = some (.int .i64 r.left) := (hb3.cell (by simp)).trans (by go_simp)
  have r1 : w3.cell? ⟨w1.heap.size, 1, none⟩ = some (.slice r.A r.right.length r.c) := (hb3.cell (by simp)).trans (by go_simp)
  have d0 : w3.cell? ⟨w.heap.size, 0, none⟩ = some (.slice AT T.length cT) := (hb13.cell z1).trans b0
  have d1 : w3.cell? ⟨w.heap.size, 1, none⟩ = some (.slice AN N.length cN) := (hb13.cell z1).trans b1
  have d2 : w3.cell? ⟨w.heap.size, 2, none⟩ = some (.int .i64 ax) := (hb13.cell z1).trans b2
  have d3 : w3.cell? ⟨w.heap.size, 3, none⟩ = some (.slice (some ⟨b, o, none⟩) R.length cR) := (hb13.cell z1).trans b3
  have hsl := Hsz.out (-1 - r.left)
  have Hrow : Hid (Row w3 w.heap.size r.A (nums r.right)) := Lib.hid ((HG.out.below hbw3).r.each r (by rw [← hrn]; exact List.getElem_mem hlt)).1
  have HG3 := Lib.hid (HG.out.below hbw3)
  have hlen := Hlen.out
  generalize hsv : symF T N (-1 - r.left) = sv at *
  by_cases h0 : r.right = []
  · have HT : Hid (ruleT T N r.left r.right = sv ++ ⟨#[32, 58]⟩) := Lib.hid (by rw [ruleT, if_pos h0, hsv])
    have g0 : r.right.length = 0 := by simp [h0]
    clear h0 Hsy Hss
    go_wp2_with fail
    go_ret2
    exact ⟨hbw3, by rw [HT.out]; rfl⟩
  · have HT : Hid (ruleT T N r.left r.right = sv ++ ⟨#[32, 58]⟩ ++ (⟨#[32]⟩ ++ ⟨(symsL T N r.right).toArray⟩)) := Lib.hid (by rw [ruleT, if_neg h0, hsv])
    have g0 : 0 < r.right.length := List.length_pos_iff.2 h0
    have H5 := Lib.hid (Hss.out w3 HG3.out Hrow.out h0 hbw3.size)
    have hss : (⟨(symsL T N r.right).toArray⟩ : ByteArray).size = (symsL T N r.right).length := rfl
    clear h0 Hsy Hss
    go_wp2_with fail
    refine H5.out.mono ?_
    rintro en w4 ⟨hb4, rfl⟩
    go_wp2_with fail
    go_ret2
    exact ⟨hbw3.trans (hb4.mono hbw3.size), by rw [HT.out]; rfl⟩
end Go.Proofs.YtoidecclimhgjaaGreatDoor
