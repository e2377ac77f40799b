/- gram.Check: what is wrong of a grammar. -/
import Derived.Test.YtoidecclimhgjaaGreatDoorGram2
namespace Go.Proofs.YtoidecclimhgjaaGreatDoor
open Go.RowKit

/-- The first rule that is wrong, from number i on. -/
def rulesErr (t n : Nat) : Nat → List (Int × List Int) → Er
  | _, [] => .ok
  | i, r :: rs => match ruleErr t n r.1 r.2 with
    | .kind k => .rule i k
    | _ => rulesErr t n (i + 1) rs
/-- What is wrong of a grammar. -/
def checkErr (T N : List ByteArray) (ax : Int) (R : List (Int × List Int)) : Er :=
  if 60 < T.length ∨ 60 < T.length + N.length ∨ 120 < R.length then .kind 3
  else if ¬ namesOk T ∨ ¬ namesOk N then .kind 10
  else if ax < 0 ∨ (N.length : Int) ≤ ax then .kind 1
  else rulesErr T.length N.length 0 R
def Rl.p (r : Rl) : Int × List Int := (r.left, r.right)
def GV.err (g : GV) : Er := checkErr g.T g.N g.ax (g.R.map Rl.p)

theorem ruleErr_cases (t n : Nat) (l : Int) (r : List Int) : ruleErr t n l r = .ok ∨ ruleErr t n l r = .kind 1 ∨ ruleErr t n l r = .kind 3 := by
  unfold ruleErr; split
  · simp
  · split <;> simp

set_option maxHeartbeats 2000000 in
theorem check_any (g : GV) (e : Nat → Addr) (w : World) (B : Nat) (hE : GE w e) (hg : g.In w B) (hB : B ≤ w.heap.size) :
    Calls Tryz.prog 31 #[g.val] w (RetE w e g.err) := by
  obtain ⟨T, AT, cT, N, AN, cN, ax, R, AR, cR⟩ := g
  simp only [GV.val, GV.err] at *
  have hnc : N.length ≤ 140737488355328 := hg.nc.2
  have htc : T.length ≤ 140737488355328 := hg.tc.2
  have hrc : R.length ≤ 140737488355328 := hg.r.cap
  have htc2 : T.length ≤ cT ∧ T.length ≤ 4611686018427387904 := ⟨hg.tc.1, by have h : T.length ≤ 140737488355328 := hg.tc.2; omega⟩
  have hnc2 : N.length ≤ cN ∧ N.length ≤ 4611686018427387904 := ⟨hg.nc.1, by have h : N.length ≤ 140737488355328 := hg.nc.2; omega⟩
  have hz := hE.size
  have z0 : 0 < w.heap.size := by omega
  have s3 : gno 3 < w.heap.size := Nat.lt_of_lt_of_le (gno_lt 3) hE.size
  have s1 : gno 1 < w.heap.size := Nat.lt_of_lt_of_le (gno_lt 1) hE.size
  have s10 : gno 10 < w.heap.size := Nat.lt_of_lt_of_le (gno_lt 10) hE.size
  have c3 := hE.cell 3 (by omega) (by omega)
  have c1 := hE.cell 1 (by omega) (by omega)
  have c10 := hE.cell 10 (by omega) (by omega)
  simp only [gno] at s3 s1 c3 c1 s10 c10
  by_cases h60 : 60 < T.length
  · have hfin : checkErr T N ax (R.map Rl.p) = .kind 3 := by simp [checkErr, h60]
    rw [hfin]; clear hfin
    go_enter Tryz.func31, Tryz.ntmps31
    go_wp2_with fail
    go_ret
    exact ⟨(Below.refl _ _).alloc (Nat.le_refl _) _, _, rfl, by omega, by omega, rfl⟩
  by_cases h61 : 60 < T.length + N.length
  · have hfin : checkErr T N ax (R.map Rl.p) = .kind 3 := by simp [checkErr, h61]
    rw [hfin]; clear hfin
    go_enter Tryz.func31, Tryz.ntmps31
    go_wp2_with fail
    go_ret
    exact ⟨(Below.refl _ _).alloc (Nat.le_refl _) _, _, rfl, by omega, by omega, rfl⟩
  by_cases h120 : 120 < R.length
  · have hfin : checkErr T N ax (R.map Rl.p) = .kind 3 := by simp [checkErr, h120]
    rw [hfin]; clear hfin
    go_enter Tryz.func31, Tryz.ntmps31
    go_wp2_with fail
    go_ret
    exact ⟨(Below.refl _ _).alloc (Nat.le_refl _) _, _, rfl, by omega, by omega, rfl⟩
  have bw : Below w.heap.size w (w.alloc (.cells #[.slice AT T.length cT, .slice AN N.length cN, .int .i64 ax, .slice AR R.length cR] 25)) := (Below.refl _ _).alloc (Nat.le_refl _) _
  have hT := fun n => names_any AT cT T (World.drewN (w.alloc (.cells #[.slice AT T.length cT, .slice AN N.length cN, .int .i64 ax, .slice AR R.length cR] 25)) n) w.heap.size (((hg.t.more hB).below bw).drewN) htc2.1 htc2.2
  have hN := fun n => names_any AN cN N (World.drewN (w.alloc (.cells #[.slice AT T.length cT, .slice AN N.length cN, .int .i64 ax, .slice AR R.length cR] 25)) n) w.heap.size (((hg.n.more hB).below bw).drewN) hnc2.1 hnc2.2
  have HT := Lib.hid hT
  have HN := Lib.hid hN
  clear hT hN htc2 hnc2
  by_cases hT : namesOk T
  · by_cases hN : namesOk N
    · by_cases hax : 0 ≤ ax ∧ ax < N.length
      · have hfin : checkErr T N ax (R.map Rl.p) = rulesErr T.length N.length 0 (R.map Rl.p) := by rw [checkErr, if_neg (by simp; omega), if_neg (by simp [hT, hN]), if_neg (by omega)]
        rw [hfin]; clear hfin
        obtain ⟨hax0, hax1⟩ := hax
        have DT : decide (namesOk T) = true := decide_eq_true hT
        have DN : decide (namesOk N) = true := decide_eq_true hN
        clear hT hN
        go_enter Tryz.func31, Tryz.ntmps31
        go_wp2_with fail
        refine (HT.out 0).mono ?_
        rintro en w' ⟨rfl, m, rfl⟩
        go_wp2_with fail
        refine (HN.out m).mono ?_
        rintro en w' ⟨rfl, m', rfl⟩
        go_wp2_with fail
        go_loopw [53] (fun i wr => ∃ k : Nat, k ≤ R.length ∧ i = .int .i64 k ∧ Below (w.heap.size + 1) (w.alloc (.cells #[.slice AT T.length cT, .slice AN N.length cN, .int .i64 ax, .slice AR R.length cR] 25)) wr ∧ rulesErr T.length N.length 0 (R.map Rl.p) = rulesErr T.length N.length k ((R.drop k).map Rl.p)) (fun i _ => R.length - (intOf i).toNat)
        case atStart => exact ⟨0, Nat.zero_le _, rfl, below_dN (Below.refl _ _) _, rfl⟩
        case round =>
          obtain ⟨k, hk, rfl, hb, hi⟩ := hrel
          have Hi := Lib.hid hi
          clear hi
          have hbw : Below w.heap.size w wr := bw.trans (hb.mono (by omega))
          have b0 : wr.cell? ⟨w.heap.size, 0, none⟩ = some (.slice AT T.length cT) := (hb.cell (by simp)).trans (by go_simp)
          have b1 : wr.cell? ⟨w.heap.size, 1, none⟩ = some (.slice AN N.length cN) := (hb.cell (by simp)).trans (by go_simp)
          have b2 : wr.cell? ⟨w.heap.size, 2, none⟩ = some (.int .i64 ax) := (hb.cell (by simp)).trans (by go_simp)
          have b3 : wr.cell? ⟨w.heap.size, 3, none⟩ = some (.slice AR R.length cR) := (hb.cell (by simp)).trans (by go_simp)
          have hzr : w.heap.size < wr.heap.size := by have := hb.size; simp at this; omega
          by_cases hlt : k < R.length
          · obtain ⟨b, o, rfl, hbl, q0, q1⟩ := ((hg.r.more hB).below hbw).at_ hlt
            have hadlt : b < wr.heap.size := by omega
            have hbx : Below w.heap.size w (wr.alloc (.cells #[.int .i64 R[k].left, .slice R[k].A R[k].right.length R[k].c] 61)) := hbw.alloc hbw.size _
            have hcall := rule_any ⟨T, AT, cT, N, AN, cN, ax, R, _, cR⟩ R[k] e _ w.heap.size (hE.below hbx) ((hg.more hB).below hbx) (((hg.r.each R[k] (List.getElem_mem hlt)).1.more hB).below hbx) (by simp; omega)
            have H := Lib.hid hcall
            clear hcall hg hE
            go_wp2_with fail
            refine H.out.mono ?_
            rintro en w' ⟨hb', v, rfl, hv⟩
            have hbz : Below w.heap.size w w' := hbx.trans (hb'.mono (by simp; omega))
            have hzz : wr.heap.size + 1 ≤ w'.heap.size := by have := hb'.size; simpa using this
            have hcp : w'.cell? ⟨wr.heap.size, 0, none⟩ = some (.int .i64 R[k].left) := (hb'.cell (by simp)).trans (by go_simp)
            rcases ruleErr_cases T.length N.length R[k].left R[k].right with h0 | h0 | h0
            · rw [h0] at hv
              obtain rfl : v = .nilIface := hv
              have H0 := Lib.hid h0
              clear h0
              go_wp2_with fail
              go_roundw
              case rel => exact ⟨k + 1, by omega, by go_num, (hb.alloc hzr _).trans (hb'.mono (by simp; omega)), by
                rw [Hi.out, List.drop_eq_getElem_cons hlt, List.map_cons, rulesErr, show ruleErr T.length N.length (Rl.p R[k]).1 (Rl.p R[k]).2 = .ok from H0.out]⟩
              case measure => simp [intOf]; omega
            · rw [h0] at hv
              obtain ⟨_, _, rfl⟩ := hv
              have H0 := Lib.hid h0
              clear h0
              go_wp2_with fail
              go_ret
              exact ⟨hbz.alloc hbz.size _, _, rfl, by
                rw [Hi.out, List.drop_eq_getElem_cons hlt, List.map_cons, rulesErr, show ruleErr T.length N.length (Rl.p R[k]).1 (Rl.p R[k]).2 = .kind 1 from H0.out]
                exact ⟨by omega, by omega, w'.heap.size, rfl, by simp, by go_simp, by go_simp⟩⟩
            · rw [h0] at hv
              obtain ⟨_, _, rfl⟩ := hv
              have H0 := Lib.hid h0
              clear h0
              go_wp2_with fail
              go_ret
              exact ⟨hbz.alloc hbz.size _, _, rfl, by
                rw [Hi.out, List.drop_eq_getElem_cons hlt, List.map_cons, rulesErr, show ruleErr T.length N.length (Rl.p R[k]).1 (Rl.p R[k]).2 = .kind 3 from H0.out]
                exact ⟨by omega, by omega, w'.heap.size, rfl, by simp, by go_simp, by go_simp⟩⟩
          · go_wp2_with fail
            go_ret
            exact ⟨hbw, _, rfl, by rw [Hi.out, List.drop_of_length_le (by omega)]; rfl⟩
      · have hfin : checkErr T N ax (R.map Rl.p) = .kind 1 := by rw [checkErr, if_neg (by simp; omega), if_neg (by simp [hT, hN]), if_pos (by omega)]
        rw [hfin]; clear hfin
        have DT : decide (namesOk T) = true := decide_eq_true hT
        have DN : decide (namesOk N) = true := decide_eq_true hN
        clear hT hN
        go_enter Tryz.func31, Tryz.ntmps31
        go_wp2_with fail
        refine (HT.out 0).mono ?_
        rintro en w' ⟨rfl, m, rfl⟩
        go_wp2_with fail
        refine (HN.out m).mono ?_
        rintro en w' ⟨rfl, m', rfl⟩
        by_cases h0 : ax < 0
        · go_wp2_with fail
          go_ret
          exact ⟨below_dN bw _, _, rfl, by omega, by omega, rfl⟩
        · have h1 : (N.length : Int) ≤ ax := by omega
          clear hax
          go_wp2_with fail
          go_ret
          exact ⟨below_dN bw _, _, rfl, by omega, by omega, rfl⟩
    · have hfin : checkErr T N ax (R.map Rl.p) = .kind 10 := by rw [checkErr, if_neg (by simp; omega), if_pos (by simp [hN])]
      rw [hfin]; clear hfin
      have DT : decide (namesOk T) = true := decide_eq_true hT
      have DN : decide (namesOk N) = false := decide_eq_false hN
      clear hT hN
      go_enter Tryz.func31, Tryz.ntmps31
      go_wp2_with fail
      refine (HT.out 0).mono ?_
      rintro en w' ⟨rfl, m, rfl⟩
      go_wp2_with fail
      refine (HN.out m).mono ?_
      rintro en w' ⟨rfl, m', rfl⟩
      go_wp2_with fail
      go_ret
      exact ⟨below_dN bw _, _, rfl, by omega, by omega, rfl⟩
  · have hfin : checkErr T N ax (R.map Rl.p) = .kind 10 := by rw [checkErr, if_neg (by simp; omega), if_pos (by simp [hT])]
    rw [hfin]; clear hfin
    have DT : decide (namesOk T) = false := decide_eq_false hT
    clear hT
    go_enter Tryz.func31, Tryz.ntmps31
    go_wp2_with fail
    refine (HT.out 0).mono ?_
    rintro en w' ⟨rfl, m, rfl⟩
    go_wp2_with fail
    go_ret
    exact ⟨below_dN bw _, _, rfl, by omega, by omega, rfl⟩
end Go.Proofs.YtoidecclimhgjaaGreatDoor
