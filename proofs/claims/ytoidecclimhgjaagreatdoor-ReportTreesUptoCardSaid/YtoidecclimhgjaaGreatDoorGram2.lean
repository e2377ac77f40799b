/- gram.rule: what is wrong of a rule. -/
import Derived.Test.YtoidecclimhgjaaGreatDoorErr
import Derived.Test.YtoidecclimhgjaaGreatDoorGram1
import Derived.Test.YtoidecclimhgjaaGreatDoorSlices2
namespace Go.Proofs.YtoidecclimhgjaaGreatDoor
open Go.RowKit

/-- Is a symbol none of the grammar's? -/
def symBad (t n : Nat) (s : Int) : Bool := decide ((t : Int) ≤ s) || decide (s < -(n : Int))

set_option maxHeartbeats 400000 in
theorem rule_1 (A1 A2 : Option Addr) (t c1 n c2 : Nat) (s : Int) (b : Nat) (w : World) (h0 : w.cell? ⟨b, 0, none⟩ = some (.slice A1 t c1)) (h1 : w.cell? ⟨b, 1, none⟩ = some (.slice A2 n c2)) (hn : n ≤ 140737488355328) :
    Calls Tryz.prog 80 #[.int .i64 s, .pointer (some ⟨b, 0, none⟩)] w (Quiet w (.bool (symBad t n s))) := by
  by_cases hs : (t : Int) ≤ s
  · go_enter Tryz.func80, Tryz.ntmps80
    go_wp2
    go_ret
    exact ⟨ret_bool (by simp [symBad, hs]), 0, rfl⟩
  · go_enter Tryz.func80, Tryz.ntmps80
    go_wp2
    go_ret
    exact ⟨ret_bool (by simp [symBad]; omega), 0, rfl⟩

/-- What is wrong of a rule: 0 nothing. -/
def ruleErr (t n : Nat) (left : Int) (right : List Int) : Er :=
  if 32 < right.length then .kind 3 else if left < 0 ∨ (n : Int) ≤ left ∨ right.any (symBad t n) = true then .kind 1 else .ok

set_option maxHeartbeats 800000 in
theorem rule_any (g : GV) (r : Rl) (e : Nat → Addr) (w : World) (B : Nat) (hE : GE w e) (hg : g.In w B) (hr : Row w B r.A (nums r.right)) (hB : B ≤ w.heap.size) :
    Calls Tryz.prog 52 #[g.val, .agg #[.int .i64 r.left, .slice r.A r.right.length r.c]] w (RetE w e (ruleErr g.T.length g.N.length r.left r.right)) := by
  obtain ⟨T, AT, cT, N, AN, cN, ax, R, AR, cR⟩ := g
  obtain ⟨left, right, A, c⟩ := r
  simp only [GV.val] at *
  have hnc : N.length ≤ 140737488355328 := hg.nc.2
  have hz := hE.size
  have z0 : 0 < w.heap.size := by omega
  have s3 : gno 3 < w.heap.size := Nat.lt_of_lt_of_le (gno_lt 3) hE.size
  have s1 : gno 1 < w.heap.size := Nat.lt_of_lt_of_le (gno_lt 1) hE.size
  have c3 := hE.cell 3 (by omega) (by omega)
  have c1 := hE.cell 1 (by omega) (by omega)
  simp only [gno] at s3 s1 c3 c1
  by_cases h32 : 32 < right.length
  · have hfin : ruleErr T.length N.length left right = .kind 3 := by simp [ruleErr, h32]
    rw [hfin]; clear hfin
    go_enter Tryz.func52, Tryz.ntmps52
    go_wp2_with fail
    go_ret
    exact ⟨((Below.refl _ _).alloc (Nat.le_refl _) _).alloc (by simp) _, _, rfl, by omega, by omega, rfl⟩
  by_cases hl0 : left < 0
  · have hfin : ruleErr T.length N.length left right = .kind 1 := by simp [ruleErr, h32, hl0]
    rw [hfin]; clear hfin
    go_enter Tryz.func52, Tryz.ntmps52
    go_wp2_with fail

    go_ret
    exact ⟨((Below.refl _ _).alloc (Nat.le_refl _) _).alloc (by simp) _, _, rfl, by omega, by omega, rfl⟩
  by_cases hl1 : (N.length : Int) ≤ left
  · have hfin : ruleErr T.length N.length left right = .kind 1 := by simp [ruleErr, h32, hl1]
    rw [hfin]; clear hfin
    go_enter Tryz.func52, Tryz.ntmps52
    go_wp2_with fail
    go_ret
    exact ⟨((Below.refl _ _).alloc (Nat.le_refl _) _).alloc (by simp) _, _, rfl, by omega, by omega, rfl⟩
  · have hW := conF_int A c right 80 (.pointer (some ⟨w.heap.size, 0, none⟩)) (symBad T.length N.length) ((w.alloc (.cells #[.slice AT T.length cT, .slice AN N.length cN, .int .i64 ax, .slice AR R.length cR] 25)).alloc (.cells #[.int .i64 left, .slice A right.length c] 61)) w.heap.size
      ((hr.more hB).below (((Below.refl _ _).alloc (Nat.le_refl _) _).alloc (by simp) _)) (by omega) (enters_of Tryz.func80 (by kernel_rfl) rfl)
      (fun x _ n => rule_1 AT AN T.length cT N.length cN x w.heap.size _ (by go_simp) (by go_simp) hnc)
    have H := Lib.hid hW
    clear hW
    go_enter Tryz.func52, Tryz.ntmps52
    go_wp2_with fail
    refine H.out.mono ?_
    rintro en w' ⟨rfl, m, rfl⟩
    cases ha : right.any (symBad T.length N.length) with
    | true =>
      have Ha := Lib.hid ha
      clear ha
      go_wp2_with fail
      go_ret
      exact ⟨below_dN (((Below.refl _ _).alloc (Nat.le_refl _) _).alloc (by simp) _) _, _, rfl, by rw [ruleErr, if_neg h32, if_pos (Or.inr (Or.inr Ha.out))]; exact ⟨by omega, by omega, rfl⟩⟩
    | false =>
      have Ha := Lib.hid ha
      clear ha
      go_wp2_with fail
      go_ret
      exact ⟨below_dN (((Below.refl _ _).alloc (Nat.le_refl _) _).alloc (by simp) _) _, _, rfl, by rw [ruleErr, if_neg h32, if_neg (by rw [Ha.out]; simp; omega)]; rfl⟩
end Go.Proofs.YtoidecclimhgjaaGreatDoor
