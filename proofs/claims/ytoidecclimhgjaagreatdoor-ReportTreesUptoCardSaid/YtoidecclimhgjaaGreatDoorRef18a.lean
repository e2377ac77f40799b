/- dovetailref18.May. -/
import Derived.Test.YtoidecclimhgjaaGreatDoorRef03
namespace Go.Proofs.YtoidecclimhgjaaGreatDoor
open Go.RowKit

/-- An error that is told has its number, and neither a place nor a pair. -/
def Er.fine (r : Er) : Prop := r = .ok ∨ (1 ≤ r.kd ∧ r.kd ≤ 15 ∧ r.plain = true)
theorem rulesErr_fine (t n : Nat) (R : List (Int × List Int)) : ∀ i, (rulesErr t n i R).fine := by
  induction R with
  | nil => intro i; exact .inl rfl
  | cons a R ih =>
    intro i
    rw [rulesErr]
    rcases ruleErr_cases t n a.1 a.2 with h0 | h0 | h0 <;> simp only [h0]
    · exact ih (i + 1)
    · exact .inr ⟨by simp [Er.kd], by simp [Er.kd], rfl⟩
    · exact .inr ⟨by simp [Er.kd], by simp [Er.kd], rfl⟩
theorem checkErr_fine (T N : List ByteArray) (ax : Int) (R : List (Int × List Int)) : (checkErr T N ax R).fine := by
  unfold checkErr
  split
  · exact .inr ⟨by simp [Er.kd], by simp [Er.kd], rfl⟩
  split
  · exact .inr ⟨by simp [Er.kd], by simp [Er.kd], rfl⟩
  split
  · exact .inr ⟨by simp [Er.kd], by simp [Er.kd], rfl⟩
  · exact rulesErr_fine _ _ _ _
theorem mayErr_fine (T N : List ByteArray) (ax : Int) (R : List (Int × List Int)) (s : Int) : (mayErr T N ax R s).fine := by
  unfold mayErr
  split
  · exact checkErr_fine T N ax R
  split
  · exact .inr ⟨by simp [Er.kd], by simp [Er.kd], rfl⟩
  split
  · exact .inr ⟨by simp [Er.kd], by simp [Er.kd], rfl⟩
  · exact .inl rfl

set_option maxHeartbeats 2000000 in
set_option maxRecDepth 100000 in
theorem may_ref (g : GV) (steps : Int) (w : World) (B : Nat) (hg : g.In w B) (hB : B ≤ w.heap.size) :
    Calls Tryz.prog 39 #[g.val, .int .i64 steps] w (RetV w (mayErr g.T g.N g.ax (g.R.map Rl.p) steps).two) := by
  obtain ⟨T, AT, cT, N, AN, cN, ax, R, AR, cR⟩ := g
  have bw : Below w.heap.size w (w.alloc (.cells #[.slice AT T.length cT, .slice AN N.length cN, .int .i64 ax, .slice AR R.length cR] 25)) := (Below.refl _ _).alloc (Nat.le_refl _) _
  have hc := check_ref _ _ w.heap.size ((hg.more hB).below bw) bw.size
  simp only [GV.val, GV.err] at *
  have H := Lib.hid hc
  have HG := Lib.hid (hg.more hB)
  have hrc : R.length ≤ 140737488355328 := hg.r.cap
  clear hc hg
  go_enter Tryz.func39, Tryz.ntmps39
  go_wp2_with fail
  refine H.out.mono ?_
  rintro en w1 ⟨hb1, rfl⟩
  have hbw : Below w.heap.size w w1 := bw.trans (hb1.mono bw.size)
  have b3 : w1.cell? ⟨w.heap.size, 3, none⟩ = some (.slice AR R.length cR) := (hb1.cell (by simp)).trans (by go_simp)
  clear H
  by_cases hce : checkErr T N ax (R.map Rl.p) = .ok
  · rw [hce]
    have Hce := Lib.hid hce
    have HM : Hid (mayErr T N ax (R.map Rl.p) steps = if 0 ≤ idxBy (fun r : Int × List Int => decide (r.2.length = 0)) (R.map Rl.p) then .rule (idxBy (fun r : Int × List Int => decide (r.2.length = 0)) (R.map Rl.p)) 4 else if 131072 < steps then .kind 12 else .ok) := Lib.hid (by rw [mayErr, if_neg (by simpa using hce)])
    clear hce
    go_wp2_with fail
    go_loop [8] (fun i => ∃ k : Nat, k ≤ R.length ∧ i = .int .i64 k ∧ ∀ x ∈ (R.map Rl.p).take k, (fun r : Int × List Int => decide (r.2.length = 0)) x = false) (fun i => R.length - (intOf i).toNat)
    case atStart => exact ⟨0, Nat.zero_le _, rfl, by simp⟩
    case round =>
      obtain ⟨k, hk, rfl, hi⟩ := hrel
      have Hi := Lib.hid hi
      clear hi
      by_cases hlt : k < R.length
      · obtain ⟨bR, oR, rfl, hbl, q0, q1⟩ := (HG.out.below hbw).r.at_ hlt
        have hltm : k < (R.map Rl.p).length := by simpa using hlt
        by_cases h0 : R[k].right.length = 0
        · have Hf : Hid (mayErr T N ax (R.map Rl.p) steps = .rule k 4) := Lib.hid (by
            rw [HM.out, idxBy_hit hltm Hi.out (by simpa [Rl.p] using h0), if_pos (by omega)])
          rw [h0] at q1
          clear h0
          go_wp2_with fail
          go_ret2
          exact ⟨hbw, by rw [Hf.out]; rfl⟩
        · have H0 : Hid (decide (R[k].right.length = 0) = false) := Lib.hid (decide_eq_false h0)
          have e0 : ((R[k].right.length : Int) == 0) = false := by rw [beq_eq_false_iff_ne]; omega
          clear h0
          obtain ⟨q, Hq⟩ : ∃ q, Hid (R[k].right.length = q) := ⟨_, Lib.hid rfl⟩
          rw [Hq.out] at q1 e0
          go_wp2_with fail
          go_round
          case rel => exact ⟨k + 1, by omega, by go_num, fun x hx => ((take_succ_mem hltm x).1 hx).elim (Hi.out x) (fun e => by subst e; simpa [Rl.p] using H0.out)⟩
          case measure => simp [intOf]; omega
      · have hidx : idxBy (fun r : Int × List Int => decide (r.2.length = 0)) (R.map Rl.p) = -1 := idxBy_miss (by have := Hi.out; rwa [List.take_of_length_le (by simp; omega)] at this)
        by_cases hs : 131072 < steps
        · have Hf : Hid (mayErr T N ax (R.map Rl.p) steps = .kind 12) := Lib.hid (by rw [HM.out, hidx, if_neg (by omega), if_pos hs])
          clear hidx
          go_wp2_with fail
          go_ret2
          exact ⟨hbw, by rw [Hf.out]; rfl⟩
        · have Hf : Hid (mayErr T N ax (R.map Rl.p) steps = .ok) := Lib.hid (by rw [HM.out, hidx, if_neg (by omega), if_neg hs])
          clear hidx
          go_wp2_with fail
          go_ret2
          exact ⟨hbw, by rw [Hf.out]; rfl⟩
  · have HM : Hid (mayErr T N ax (R.map Rl.p) steps = checkErr T N ax (R.map Rl.p)) := Lib.hid (by rw [mayErr, if_pos hce])
    have hkd : (((checkErr T N ax (R.map Rl.p)).kd : Int) != 0) = true := by
      rcases checkErr_fine T N ax (R.map Rl.p) with h | h
      · exact absurd h hce
      · rw [bne_iff_ne]; omega
    clear hce
    go_wp2_with fail
    go_ret2
    exact ⟨hbw, by rw [HM.out]; rfl⟩
end Go.Proofs.YtoidecclimhgjaaGreatDoor
